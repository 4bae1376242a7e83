/-
  Texts of this claim, one behind the other: append of a string's bytes to a slice of the call's own; bytes made a string. No program in sight; Bits; huff; Laws on int's bit operations. No program in sight; Laws on int's bit operations, more. No program in sight; huff; huff; flate; lz; lz; lz; inflate; What an int, a byte, a string are to the program; Bits; Bits; bits, a reader; lz; flate; flate; inflate; inflate; inflate; inflate; stream; huff; huff; huff; Bits.
-/
import Derived.Test.YtljejkdkjnbmhaaUc1
import Derived.Lib.AppendStr
import Derived.Deep.AppendSrc
import Derived.Laws.BytesArg
import Derived.WalkKit
import Derived.Test.YtljejkdkjnbmhaaRows
import Derived.WalkSpells
import Derived.WalkLawsBesides
import Derived.BigQuiet
import Derived.Deep.DeepCutAuto
import Derived.Deep.CutBlock
import Derived.Deep.LoopGhost
import Derived.Deep.QuietTactic
import Derived.Laws.ResultCell
import Derived.Deep.OwnRows
set_option linter.unusedVariables false
/- append of a string's bytes to a slice of the call's own; bytes made a string. No program in sight. -/
namespace Go.Proofs.Ytljejkdkjnbmhaa
open Go.RowKit Go.Lib

section
variable {w0 w w' : World} {p q : Piece} {ps qs : List Piece} {e : TypeId} {n : Nat} {v : Value} {xs : List Value}
variable {P : Program} {t u ty : TypeId} {i : TypeInfo} {z : Value}

theorem strCells_eq (s : ByteArray) : strCells s = byteCells s := by
  simp [strCells, byteCells]

theorem run_append_str_sep (H : Own w0 w (slc e 1 v n xs :: ps)) (ht : P.underlying t = some (.slice e)) (hu : P.underlying u = some .string) (hi : P.info? e = some i) (hz : i.zero = some z) (hsize : i.size = 1) (hby : i.bytes = 1) (hzs : z.cells.size = 1)
    (s : ByteArray) (h63 : n + s.size ≤ maxLen) (hbytes : n + s.size ≤ 140737488355328) :
    ∃ v' w', (Builtin.append_ #[t, u] ty #[v, .string s]).run P w = .ok v' w' ∧ Own w0 w' (slc e 1 v' (n + s.size) (xs ++ byteCells s) :: ps) := by
  have hsmall : n + s.size ≤ 9223372036854775807 := by simpa [maxLen] using h63
  have hnl := H.slc_len
  rw [Nat.mul_one] at hnl
  have hbl := byteCells_length s
  have hlen : (xs ++ byteCells s).length = (n + s.size) * 1 := by rw [List.length_append, hnl, hbl]; omega
  have src : Src P i.size u (.string s) s.size (byteCells s) w := by rw [hsize]; exact Src.ofString w hu s
  have grown : ∀ (qs : List Piece), Own w0 w qs → ∀ (old : Nat), old < n + s.size →
      Own w0 (w.drew.alloc (.cells ((xs ++ byteCells s).toArray ++ Builtin.zeroCells z.cells (grownCap w (n + s.size) old e - (n + s.size))) e))
        (slc e 1 (.slice (some ⟨w.heap.size, 0, none⟩) (n + s.size) (grownCap w (n + s.size) old e)) (n + s.size) (xs ++ byteCells s) :: qs) := by
    intro qs hqs old ho
    have hge := grownCap_ge w (n + s.size) old e
    have hcm : grownCap w (n + s.size) old e ≤ maxLen := grownCap_le_maxLen w (n + s.size) old e h63
    refine (hqs.drew.alloc _).slc_mk hlen hge hcm ?_ ?_
    · simp only [Array.size_append, List.size_toArray, size_zeroCells, hzs, hlen]
      omega
    · simp only [Array.toList_append]
      rw [← hlen]
      exact List.take_left
  rcases H.slc_cases with ⟨rfl, rfl, rfl, h5⟩ | ⟨g, cap, cur, rfl, _, hc1, hc2, hc3, hc4, h5⟩
  · by_cases h0 : s.size = 0
    · have hb0 : byteCells s = [] := List.eq_nil_of_length_eq_zero (by omega)
      refine ⟨.slice none 0 0, w, ?_, by simpa [h0, hb0] using H⟩
      simp [Builtin.append_, run_underlying ht, run_underlying hu, sizeOf, typeInfo, hi, Builtin.lenOf, h0, Builtin.firstCells]
    · have hr := run_append_grow_src (P := P) w t u ty e i z ht hi hz none 0 0 [] (run_firstCells_none (P := P) w.drew i.size 0 0 0) (.string s) s.size (byteCells s) src (by omega) (by omega) (growslice_fits (by omega) (by rw [hby]; omega))
      exact ⟨_, _, hr, grown _ h5 0 (by omega)⟩
  · by_cases hroom : n + s.size ≤ cap
    · have hr := run_append_room_string (P := P) w t u ty e i ht hu hi hsize g n cap cur h5.block.1 s hroom (by omega)
      refine ⟨_, _, hr, ?_⟩
      have hset : Own w0 (w.setRow g (cur.toList.take n ++ strCells s ++ cur.toList.drop (n + s.size)).toArray) (blk g (.cells (cur.toList.take n ++ strCells s ++ cur.toList.drop (n + s.size)).toArray e) :: ps) := h5.setRow
      refine hset.slc_mk hlen hroom hc2 ?_ ?_
      · simp only [List.size_toArray, List.length_append, List.length_take, List.length_drop, Array.length_toList, strCells_eq, hbl]
        omega
      · rw [Nat.mul_one] at hc4
        rw [hc4, ← hlen, strCells_eq]
        exact List.take_left
    · have holds : ∀ j u, xs[j]? = some u → w.cell? ((⟨g, 0, none⟩ : Addr).add j) = some u := by
        obtain ⟨_, _, _, hv, _, _, _, hcl⟩ := H.rd
        cases hv
        exact hcl _ rfl
      have hfo := run_firstCells_some (P := P) w.drew i.size n ⟨g, 0, none⟩ n cap xs (by rw [hsize]; omega) (by simpa using holds)
      have hr := run_append_grow_src (P := P) w t u ty e i z ht hi hz (some ⟨g, 0, none⟩) n cap xs hfo (.string s) s.size (byteCells s) src (by omega) (by omega) (growslice_fits (by omega) (by rw [hby]; omega))
      exact ⟨_, _, hr, grown _ h5.drop cap (by omega)⟩

/-- 'out = append(out, s...)' in a walk, out the call's own. -/
theorem wpList_append_str {ops : Array Oper} {rest : List Oper} {o : Oper} {a : Act} {Q : Exit → Act → World → Prop} (hgd : o.guard = none) (x y : Operand)
    (ho : o.op = .call { callee := .builtin .append, args := #[x, y], argTypes := #[t, u] })
    (ht : P.underlying t = some (.slice e)) (hu : P.underlying u = some .string) (hinfo : (P.info? e).map (fun i => (i.zero, i.size, i.bytes)) = some (some z, 1, 1)) (hzs : z.cells.size = 1)
    (hs : a.eval x = v) (H : Own w0 w (slc e 1 v n xs :: ps)) {s : ByteArray} (hx : a.eval y = .string s)
    (h63 : n + s.size ≤ 140737488355328)
    (h : ∀ v' w', Own w0 w' (slc e 1 v' (n + s.size) (xs ++ byteCells s) :: ps) → wpList P ops Q rest (a.put o.dst v') w') : wpList P ops Q (o :: rest) a w := by
  obtain ⟨i, hi, hz, hsize, hby⟩ := info_parts hinfo
  refine wpList_plain hgd fun K hK => ?_
  obtain ⟨v', w', hr, h2⟩ := run_append_str_sep (P := P) (ty := o.type) H ht hu hi hz hsize hby hzs s (by simp only [maxLen]; omega) h63
  unfold Oper.wp execOp
  simp only [ho, resolve, invoke, builtin, Sem.run_bind, Sem.run_pure, Result.andThen_ok, List.map_toArray, List.map_cons, List.map_nil, hs, hx, hr]
  exact hK _ _ (h v' w' h2)

/-- bytes made a string -/
theorem run_string_sep (src dst : TypeId) (hs : P.underlying src = some (.slice e)) (he : P.underlying e = some (.int .u8)) (hd : P.underlying dst = some .string) {ns : List Int} (h : Rd w 1 v n (ns.map (.int .u8))) :
    (convert src dst v).run P w = .ok (.string (strOfNums ns)) w := by
  have hl : ns.length = n := by have := h.len; simpa using this
  by_cases h0 : n = 0
  · subst h0
    obtain ⟨a, c, rfl, _, _⟩ := h.shape
    obtain rfl := List.eq_nil_of_length_eq_zero hl
    cases a with
    | none => rw [run_convert_bytes_nil w src e hs he 0 c dst hd]; rfl
    | some ad =>
      rw [run_convert_bytes_string w src dst e _ 0 c hs he hd, run_bytesToString w ad 0 c [] (by simp [loadCells, loadCellsFrom])]
      rfl
  · obtain ⟨b, o, c, rfl, _, _, hc⟩ := h.at (by simp; omega)
    refine run_convert_bytes_arg w src e hs he b o n c ns hl (fun j hj => ?_) dst hd
    exact hc j _ (ints_get _ _ (by omega))
end
end Go.Proofs.Ytljejkdkjnbmhaa
/- Bits: lists of bits, and the bytes that they are. No program in sight. -/
namespace Go.Proofs.Ytljejkdkjnbmhaa

def bi (b : Bool) : Int := if b then 1 else 0
theorem bi_bd (b : Bool) : 0 ≤ bi b ∧ bi b ≤ 1 := by cases b <;> decide
/-- The number that bits are, the lowest first. -/
def valOf : List Bool → Int
  | [] => 0
  | b :: t => bi b + 2 * valOf t
theorem valOf_bd : ∀ l : List Bool, 0 ≤ valOf l ∧ valOf l < 2 ^ l.length
  | [] => by simp [valOf]
  | b :: t => by
    have h := valOf_bd t
    have hb := bi_bd b
    simp only [valOf, List.length_cons, Int.pow_succ]
    omega
theorem valOf_append : ∀ l m : List Bool, valOf (l ++ m) = valOf l + 2 ^ l.length * valOf m
  | [], m => by simp [valOf]
  | b :: t, m => by
    simp only [List.cons_append, valOf, valOf_append t m, List.length_cons, Int.pow_succ]
    rw [Int.mul_add, Int.mul_comm (2 ^ t.length) 2, Int.mul_assoc]
    omega
theorem valOf_snoc (l : List Bool) (b : Bool) : valOf (l ++ [b]) = valOf l + 2 ^ l.length * bi b := by
  rw [valOf_append]; simp [valOf]

theorem pow2_le {a b : Nat} (h : a ≤ b) : (2 : Int) ^ a ≤ 2 ^ b := by
  have := Int.ofNat_le.2 (Nat.pow_le_pow_right (show 0 < 2 by decide) h)
  simpa [Int.natCast_pow] using this
/-- The k-th byte. -/
def byteAt (bs : List Bool) (k : Nat) : Int := valOf ((bs.drop (8 * k)).take 8)
theorem byteAt_bd (bs : List Bool) (k : Nat) : 0 ≤ byteAt bs k ∧ byteAt bs k < 256 := by
  have h := valOf_bd ((bs.drop (8 * k)).take 8)
  refine ⟨h.1, Int.lt_of_lt_of_le h.2 ?_⟩
  have hl : ((bs.drop (8 * k)).take 8).length ≤ 8 := by simp; omega
  exact pow2_le hl
/-- A byte that is not full yet. -/
theorem byteAt_bd' (bs : List Bool) : byteAt bs (bs.length / 8) < 2 ^ (bs.length % 8) := by
  have h := valOf_bd ((bs.drop (8 * (bs.length / 8))).take 8)
  have hl : ((bs.drop (8 * (bs.length / 8))).take 8).length = bs.length % 8 := by simp; omega
  rw [hl] at h
  exact h.2
theorem byteAt_out (bs : List Bool) (k : Nat) (h : bs.length ≤ 8 * k) : byteAt bs k = 0 := by
  unfold byteAt
  rw [List.drop_eq_nil_of_le h]
  rfl
theorem byteAt_snoc (bs : List Bool) (b : Bool) (k : Nat) : byteAt (bs ++ [b]) k = if k = bs.length / 8 then byteAt bs k + 2 ^ (bs.length % 8) * bi b else byteAt bs k := by
  unfold byteAt
  split
  · next h =>
    subst h
    have hl : (bs.drop (8 * (bs.length / 8))).length = bs.length % 8 := by simp; omega
    rw [List.drop_append_of_le_length (by omega), List.take_of_length_le (by simp; omega), List.take_of_length_le (by omega), valOf_snoc, hl]
  · next h =>
    by_cases hk : 8 * k ≤ bs.length
    · rw [List.drop_append_of_le_length hk, List.take_append_of_le_length (by simp; omega)]
    · rw [List.drop_eq_nil_of_le (by simp; omega), List.drop_eq_nil_of_le (by omega)]

def nbytes (n : Nat) : Nat := (n + 7) / 8
/-- The bytes. -/
def bytesOf (bs : List Bool) : List Int := (List.range (nbytes bs.length)).map (byteAt bs)
theorem bytesOf_length (bs : List Bool) : (bytesOf bs).length = nbytes bs.length := by simp [bytesOf]
theorem bytesOf_get (bs : List Bool) {k : Nat} (h : k < nbytes bs.length) : (bytesOf bs)[k]? = some (byteAt bs k) := by simp [bytesOf, h]
theorem bytesOf_bd (bs : List Bool) : ∀ x ∈ bytesOf bs, 0 ≤ x ∧ x < 256 := by
  intro x hx
  obtain ⟨k, _, rfl⟩ := List.mem_map.1 hx
  exact byteAt_bd bs k

/-- One bit more: the row in which its byte is there, that byte turned. -/
theorem bytesOf_snoc (bs : List Bool) (b : Bool) (L : List Int) (hL : L = if bs.length % 8 = 0 then bytesOf bs ++ [0] else bytesOf bs) :
    L.length = nbytes (bs.length + 1) ∧ L[bs.length / 8]? = some (byteAt bs (bs.length / 8)) ∧ bytesOf (bs ++ [b]) = L.set (bs.length / 8) (byteAt bs (bs.length / 8) + 2 ^ (bs.length % 8) * bi b) := by
  have hlen : L.length = nbytes (bs.length + 1) := by
    rw [hL]
    split <;> simp [bytesOf_length, nbytes] <;> omega
  have hget : ∀ k, k < nbytes (bs.length + 1) → L[k]? = some (byteAt bs k) := by
    intro k hk
    rw [hL]
    split
    · next h0 =>
      by_cases hk2 : k < nbytes bs.length
      · rw [List.getElem?_append_left (by rw [bytesOf_length]; exact hk2), bytesOf_get bs hk2]
      · unfold nbytes at hk hk2
        rw [List.getElem?_append_right (by rw [bytesOf_length]; unfold nbytes; omega), bytesOf_length, byteAt_out bs k (by omega)]
        have : k - nbytes bs.length = 0 := by unfold nbytes; omega
        rw [this]; rfl
    · next h0 => exact bytesOf_get bs (by unfold nbytes at *; omega)
  refine ⟨hlen, hget _ (by unfold nbytes; omega), ?_⟩
  apply List.ext_getElem?
  intro k
  by_cases hk : k < nbytes (bs.length + 1)
  · rw [bytesOf_get _ (by simpa using hk), byteAt_snoc, List.getElem?_set]
    split
    · next h => rw [if_pos h.symm, if_pos (by omega), h]
    · next h => rw [if_neg (by omega), hget k hk]
  · rw [List.getElem?_eq_none (by rw [bytesOf_length]; simp; omega), List.getElem?_eq_none (by rw [List.length_set]; omega)]

/-- Aligned: zeros up to the next byte. -/
def padN (n : Nat) : Nat := (8 - n % 8) % 8
def aligned (bs : List Bool) : List Bool := bs ++ List.replicate (padN bs.length) false
theorem aligned_length (bs : List Bool) : (aligned bs).length = 8 * nbytes bs.length := by simp [aligned, padN, nbytes]; omega
theorem valOf_zeros (n : Nat) : valOf (List.replicate n false) = 0 := by
  induction n with
  | zero => rfl
  | succ n ih => simp [List.replicate_succ, valOf, bi, ih]
theorem byteAt_aligned (bs : List Bool) (k : Nat) : byteAt (aligned bs) k = byteAt bs k := by
  unfold byteAt aligned
  by_cases hk : 8 * k ≤ bs.length
  · rw [List.drop_append_of_le_length hk, List.take_append, valOf_append, List.take_replicate, valOf_zeros]
    simp
  · rw [List.drop_eq_nil_of_le (show bs.length ≤ 8 * k by omega), List.drop_eq_nil_of_le (by simp [padN]; omega)]
theorem bytesOf_aligned (bs : List Bool) : bytesOf (aligned bs) = bytesOf bs := by
  unfold bytesOf
  rw [aligned_length, show nbytes (8 * nbytes bs.length) = nbytes bs.length by unfold nbytes; omega]
  exact List.map_congr_left fun k _ => byteAt_aligned bs k

/-! ### numbers -/
def bitOf (v : Int) (i : Nat) : Bool := decide (v / 2 ^ i % 2 = 1)
theorem bi_bitOf (v : Int) (i : Nat) : bi (bitOf v i) = v / 2 ^ i % 2 := by
  unfold bi bitOf
  simp only [decide_eq_true_eq]
  split <;> omega
def bitsOf (v : Int) (n : Nat) : List Bool := (List.range n).map (bitOf v)
theorem bitsOf_length (v : Int) (n : Nat) : (bitsOf v n).length = n := by simp [bitsOf]
theorem bitsOf_succ (v : Int) (n : Nat) : bitsOf v (n + 1) = bitsOf v n ++ [bitOf v n] := by simp [bitsOf, List.range_succ]
theorem valOf_bitsOf (v : Int) : ∀ n : Nat, valOf (bitsOf v n) = v % 2 ^ n
  | 0 => by simp [bitsOf, valOf, Int.emod_one]
  | n + 1 => by
    rw [bitsOf_succ, valOf_snoc, valOf_bitsOf v n, bitsOf_length, bi_bitOf, Int.pow_succ]
    have hp : (0 : Int) < 2 ^ n := Int.pow_pos (by decide)
    obtain ⟨m, hm⟩ : ∃ m : Int, m = 2 ^ n := ⟨_, rfl⟩
    rw [← hm] at hp ⊢
    have h1 := Int.mul_ediv_add_emod v m
    have h2 := Int.mul_ediv_add_emod (v / m) 2
    have h3 : v = m * 2 * (v / m / 2) + (v % m + m * (v / m % 2)) := by
      have e : v / m = 2 * (v / m / 2) + v / m % 2 := by omega
      have e2 : m * (v / m) = m * 2 * (v / m / 2) + m * (v / m % 2) := by
        have := congrArg (m * ·) e
        simp only [Int.mul_add, ← Int.mul_assoc] at this
        exact this
      omega
    have h4 := Int.emod_nonneg v (show m ≠ 0 by omega)
    have h5 := Int.emod_lt_of_pos v hp
    have h6 : 0 ≤ m * (v / m % 2) ∧ m * (v / m % 2) ≤ m := by
      rcases Int.emod_two_eq (v / m) with h | h <;> rw [h] <;> omega
    have h7 : (v % m + m * (v / m % 2)) % (m * 2) = v % m + m * (v / m % 2) := Int.emod_eq_of_lt (by omega) (by
      rcases Int.emod_two_eq (v / m) with h | h <;> rw [h] <;> omega)
    rw [← h7]
    conv => rhs; rw [h3]
    rw [Int.add_comm (m * 2 * _), Int.add_mul_emod_self_left]

theorem bitOf_valOf : ∀ (l : List Bool) (i : Nat), bitOf (valOf l) i = l.getD i false
  | [], i => by simp [valOf, bitOf]
  | b :: t, 0 => by
    cases b <;> simp [valOf, bi, bitOf] <;> omega
  | b :: t, i + 1 => by
    have h := bitOf_valOf t i
    have hb := bi_bd b
    rw [List.getD_cons_succ, ← h]
    have : (bi b + 2 * valOf t) / 2 ^ (i + 1) = valOf t / 2 ^ i := by
      rw [Int.pow_succ, Int.mul_comm (2 ^ i) 2, ← Int.ediv_ediv_of_nonneg (by decide)]
      congr 1
      omega
    simp [bitOf, valOf, this]
end Go.Proofs.Ytljejkdkjnbmhaa
/- huff: tables and decoding, plainly. No program in sight. -/
namespace Go.Proofs.Ytljejkdkjnbmhaa

/-- The symbols of a length, by their numbers. -/
def symsN (l : List Int) (n k : Nat) : List Nat := (List.range k).filter fun s => decide (l.getD s 0 = (n : Int))
def symsL (l : List Int) (n : Nat) : List Nat := symsN l n l.length
/-- A table's symbols, of lengths up to n. -/
def tsymsN (l : List Int) : Nat → List Nat
  | 0 => []
  | n + 1 => tsymsN l n ++ symsL l (n + 1)
def tsymsF (l : List Int) : List Nat := tsymsN l 15

section
variable {l : List Int}
theorem symsN_succ (n k : Nat) : symsN l n (k + 1) = if l.getD k 0 = (n : Int) then symsN l n k ++ [k] else symsN l n k := by
  unfold symsN
  rw [List.range_succ, List.filter_append]
  split
  · next h => rw [List.filter_cons, List.filter_nil, if_pos (decide_eq_true h)]
  · next h => rw [List.filter_cons, List.filter_nil, if_neg (by rw [decide_eq_false h]; simp), List.append_nil]
theorem symsN_length (n : Nat) : ∀ k, k ≤ l.length → (symsN l n k).length = cntL (l.take k) n := by
  intro k
  induction k with
  | zero => intro _; simp [symsN, cntL]
  | succ k ih =>
    intro h
    rw [symsN_succ, cntL_take_succ (by omega), ← ih (by omega)]
    split
    · rw [List.length_append]; rfl
    · rfl
theorem symsL_length (n : Nat) : (symsL l n).length = cntL l n := by
  unfold symsL
  rw [symsN_length n _ (Nat.le_refl _), List.take_length]
/-- Where a symbol stands. -/
theorem symsN_get (n : Nat) : ∀ k, k ≤ l.length → ∀ s, s < k → l.getD s 0 = (n : Int) → (symsN l n k)[cntL (l.take s) n]? = some s := by
  intro k
  induction k with
  | zero => intro _ s h; omega
  | succ k ih =>
    intro hk s hs hn
    rw [symsN_succ]
    rcases Nat.lt_or_ge s k with h | h
    · have h1 := ih (by omega) s h hn
      split
      · rw [List.getElem?_append_left (List.getElem?_eq_some_iff.1 h1).1]; exact h1
      · exact h1
    · have : s = k := by omega
      subst this
      rw [if_pos hn, ← symsN_length n s (by omega), List.getElem?_append_right (Nat.le_refl _)]
      simp
theorem symsN_mem (n k s : Nat) : s ∈ symsN l n k ↔ s < k ∧ l.getD s 0 = (n : Int) := by
  unfold symsN
  rw [List.mem_filter, List.mem_range]
  simp
theorem symsL_at {n s i : Nat} (h : (symsL l n)[i]? = some s) : s < l.length ∧ l.getD s 0 = (n : Int) ∧ cntL (l.take s) n = i := by
  have hm := (symsN_mem (l := l) n l.length s).1 (List.mem_of_getElem? h)
  refine ⟨hm.1, hm.2, ?_⟩
  have h2 := symsN_get n l.length (Nat.le_refl _) s hm.1 hm.2
  have hnd : (symsN l n l.length).Nodup := List.nodup_range.sublist List.filter_sublist
  have h3 : (symsN l n l.length)[i]? = (symsN l n l.length)[cntL (l.take s) n]? := h.trans h2.symm
  exact ((List.getElem?_inj (List.getElem?_eq_some_iff.1 h).1 hnd).1 h3).symm
/-- Which symbol has a code of a length. -/
theorem code_at {n s : Nat} {c : Int} (hn : 1 ≤ n) (hc : lowF l n ≤ c) : (s < l.length ∧ l.getD s 0 = (n : Int) ∧ codeF l s = c) ↔ (symsL l n)[(c - lowF l n).toNat]? = some s := by
  constructor
  · rintro ⟨h1, h2, h3⟩
    unfold codeF at h3
    rw [h2, if_pos (by omega), Int.toNat_natCast] at h3
    have := symsN_get n l.length (Nat.le_refl _) s h1 h2
    have e : (c - lowF l n).toNat = cntL (l.take s) n := by omega
    rw [e]
    exact this
  · intro h
    obtain ⟨h1, h2, h3⟩ := symsL_at h
    refine ⟨h1, h2, ?_⟩
    unfold codeF
    rw [h2, if_pos (by omega), Int.toNat_natCast, h3]
    omega
/-- How many symbols are shorter. -/
def atF (l : List Int) : Nat → Int
  | 0 => 0
  | n + 1 => atF l n + cntC l n
theorem tsymsN_length (n : Nat) : ((tsymsN l n).length : Int) = atF l (n + 1) := by
  induction n with
  | zero => simp [tsymsN, atF, cntC]
  | succ n ih =>
    rw [tsymsN, List.length_append, symsL_length, atF, ← ih]
    unfold cntC
    rw [if_neg (by omega)]
    omega
theorem tsymsN_get {n m i : Nat} (h : n < m) (hi : i < cntL l (n + 1)) : (tsymsN l m)[(tsymsN l n).length + i]? = (symsL l (n + 1))[i]? := by
  induction m with
  | zero => omega
  | succ m ih =>
    rw [tsymsN]
    rcases Nat.lt_or_ge n m with h1 | h1
    · have h2 := ih h1
      have h3 : (symsL l (n + 1))[i]? ≠ none := by
        rw [List.getElem?_eq_getElem (by rw [symsL_length]; exact hi)]; simp
      rw [List.getElem?_append_left, h2]
      rcases Nat.lt_or_ge ((tsymsN l n).length + i) (tsymsN l m).length with h4 | h4
      · exact h4
      · rw [List.getElem?_eq_none h4] at h2
        exact absurd h2.symm h3
    · have : n = m := by omega
      subst this
      rw [List.getElem?_append_right (by omega), Nat.add_sub_cancel_left]
/-- What is decoded: the symbol, the error, how many bits were read. -/
def decN (l : List Int) : Nat → Nat → Int → List Bool → Int × Int × Nat
  | 0, _, _, _ => (0, 2, 0)
  | _ + 1, _, _, [] => (0, 2, 0)
  | f + 1, n, c, b :: t => match (symsL l (n + 1))[(2 * c + bi b - lowF l (n + 1)).toNat]? with
    | some s => (s, 0, 1)
    | none => ((decN l f (n + 1) (2 * c + bi b) t).1, (decN l f (n + 1) (2 * c + bi b) t).2.1, (decN l f (n + 1) (2 * c + bi b) t).2.2 + 1)
def decF (l : List Int) (bs : List Bool) : Int × Int × Nat := decN l 15 0 0 bs
theorem decN_used (f : Nat) : ∀ n c bs, (decN l f n c bs).2.2 ≤ bs.length := by
  induction f with
  | zero => intro n c bs; simp [decN]
  | succ f ih =>
    intro n c bs
    cases bs with
    | nil => simp [decN]
    | cons b t =>
      rw [decN]
      split
      · simp
      · have := ih (n + 1) (2 * c + bi b) t
        simp only [List.length_cons]
        omega
end
end Go.Proofs.Ytljejkdkjnbmhaa
/- Laws on int's bit operations. No program in sight. -/
namespace Go.Proofs.Ytljejkdkjnbmhaa
open Go.RowKit

theorem i64_and_mask (n : Int) (k : Nat) (hk : k ≤ 62) : bits .and .i64 n ((2 ^ k - 1 : Nat) : Int) = n % ((2 ^ k : Nat) : Int) := by
  have hp : 2 ^ k ≤ 2 ^ 62 := Nat.pow_le_pow_right (by omega) hk
  have hp0 : 0 < 2 ^ k := Nat.pow_pos (by omega)
  have hm : (BitVec.ofInt 64 ((2 ^ k - 1 : Nat) : Int)).toNat = 2 ^ k - 1 := by
    rw [BitVec.toNat_ofInt]
    omega
  have hd : (2 ^ k : Nat) ∣ 2 ^ 64 := Nat.pow_dvd_pow 2 (by omega)
  have key : (BitVec.ofInt 64 n &&& BitVec.ofInt 64 ((2 ^ k - 1 : Nat) : Int)).toNat = (n % ((2 ^ 64 : Nat) : Int)).toNat % 2 ^ k := by
    rw [BitVec.toNat_and, hm, BitVec.toNat_ofInt, Nat.and_two_pow_sub_one_eq_mod]
  show IntKind.i64.wrap ((BitVec.ofInt 64 n &&& BitVec.ofInt 64 ((2 ^ k - 1 : Nat) : Int)).toNat : Nat) = _
  rw [key, IntKind.wrap_i64]
  have h1 : (((n % ((2 ^ 64 : Nat) : Int)).toNat % 2 ^ k : Nat) : Int) = n % ((2 ^ k : Nat) : Int) := by
    rw [Int.natCast_emod, Int.toNat_of_nonneg (Int.emod_nonneg _ (by omega))]
    exact Int.emod_emod_of_dvd n (Int.natCast_dvd_natCast.2 hd)
  rw [h1]
  have h2 := Int.emod_nonneg n (show ((2 ^ k : Nat) : Int) ≠ 0 by omega)
  have h3 := Int.emod_lt_of_pos n (show (0 : Int) < ((2 ^ k : Nat) : Int) by omega)
  omega
theorem i64_and63 (n : Int) : bits .and .i64 n 63 = n % 64 := i64_and_mask n 6 (by omega)
theorem i64_and1 (n : Int) : bits .and .i64 n 1 = n % 2 := i64_and_mask n 1 (by omega)

theorem or8_all : ∀ r : Fin 8, ∀ x : Fin 128, ∀ c : Fin 2, x.1 < 2 ^ r.1 → IntKind.u8.wrap ((BitVec.ofInt 8 (x.1 : Int) ||| BitVec.ofInt 8 (IntKind.u8.wrap (IntKind.i64.wrap ((c.1 : Int) * 2 ^ r.1)))).toNat : Int) = (x.1 : Int) + 2 ^ r.1 * (c.1 : Int) := by decide +kernel
/-- One bit more of a byte that has r. -/
theorem or8 {x c : Int} {r : Nat} (hr : r < 8) (hx0 : 0 ≤ x) (hx1 : x < 2 ^ r) (hc0 : 0 ≤ c) (hc1 : c ≤ 1) :
    bits .or .u8 x (IntKind.u8.wrap (IntKind.i64.wrap (c * 2 ^ r))) = x + 2 ^ r * c := by
  have h1 : (2 : Int) ^ r ≤ 128 := by
    have : ∀ r : Fin 8, (2 : Int) ^ r.1 ≤ 128 := by decide
    exact this ⟨r, hr⟩
  have hx2 : x.toNat < 2 ^ r := by
    have : ((2 ^ r : Nat) : Int) = 2 ^ r := Int.natCast_pow 2 r
    omega
  have := or8_all ⟨r, hr⟩ ⟨x.toNat, by omega⟩ ⟨c.toNat, by omega⟩ hx2
  simp only [Int.toNat_of_nonneg hx0, Int.toNat_of_nonneg hc0] at this
  exact this
end Go.Proofs.Ytljejkdkjnbmhaa
/- Laws on int's bit operations, more. No program in sight. -/
namespace Go.Proofs.Ytljejkdkjnbmhaa
open Go.RowKit

/-- One bit more of a number that has i. -/
theorem or64 {v c : Int} {i : Nat} (hi : i ≤ 61) (h0 : 0 ≤ v) (h1 : v < 2 ^ i) (hc0 : 0 ≤ c) (hc1 : c ≤ 1) : bits .or .i64 v (c * 2 ^ i) = v + 2 ^ i * c := by
  have hp : (2 : Int) ^ i ≤ 2305843009213693952 := by
    have h := Nat.pow_le_pow_right (show 0 < 2 by decide) hi
    have e : ((2 ^ i : Nat) : Int) = 2 ^ i := Int.natCast_pow 2 i
    have h2 : ((2 ^ i : Nat) : Int) ≤ ((2 ^ 61 : Nat) : Int) := Int.ofNat_le.2 h
    rw [e] at h2
    exact h2
  have hpn : ((2 ^ i : Nat) : Int) = 2 ^ i := Int.natCast_pow 2 i
  obtain ⟨a, rfl⟩ : ∃ a : Nat, v = a := ⟨v.toNat, by omega⟩
  have ha : a < 2 ^ i := by omega
  have hcc : c = 0 ∨ c = 1 := by omega
  have key : ∀ d : Nat, c = d → d ≤ 1 → IntKind.i64.wrap ((BitVec.ofInt 64 (a : Int) ||| BitVec.ofInt 64 (c * 2 ^ i)).toNat : Int) = a + 2 ^ i * c := by
    intro d hd hd1
    subst hd
    have e1 : ((d : Int) * 2 ^ i) = ((2 ^ i * d : Nat) : Int) := by rw [Int.natCast_mul, hpn, Int.mul_comm]
    have hb : 2 ^ i * d ≤ 2 ^ i := by
      have := Nat.mul_le_mul_left (2 ^ i) hd1
      simpa using this
    rw [e1, BitVec.ofInt_natCast, BitVec.ofInt_natCast, BitVec.toNat_or, BitVec.toNat_ofNat, BitVec.toNat_ofNat, Nat.mod_eq_of_lt (by omega), Nat.mod_eq_of_lt (by omega), Nat.or_comm, ← Nat.two_pow_add_eq_or_of_lt ha d]
    rw [IntKind.wrap_i64]
    have e2 : ((2 ^ i * d + a : Nat) : Int) = a + 2 ^ i * (d : Int) := by rw [Int.natCast_add, Int.natCast_mul, hpn]; omega
    rw [e2, ← hpn, ← Int.natCast_mul]
    omega
  rcases hcc with h | h
  · exact key 0 (by simpa using h) (by omega)
  · exact key 1 (by simpa using h) (by omega)
theorem u8_and1_all : ∀ x : Fin 256, bits .and .u8 (x.1 : Int) 1 = (x.1 : Int) % 2 := by decide +kernel
theorem u8_and1 {x : Int} (h0 : 0 ≤ x) (h1 : x < 256) : bits .and .u8 x 1 = x % 2 := by
  have := u8_and1_all ⟨x.toNat, by omega⟩
  simpa only [Int.toNat_of_nonneg h0] using this
end Go.Proofs.Ytljejkdkjnbmhaa
/- huff: plainly, what the walks tell (2). No program in sight. -/
namespace Go.Proofs.Ytljejkdkjnbmhaa
open Go.RowKit

def cresF (l : List Int) : List Int := if cerrF l = 0 then codesF l else []
theorem cerr_ok {l : List Int} (h : cerrF l = 0) : l.length ≤ 320 ∧ (∀ x ∈ l, 0 ≤ x ∧ x ≤ 15) ∧ sumF wtF l ≤ 2 ^ 15 := by
  unfold cerrF at h
  by_cases hm : mayF l = true
  · rw [if_pos hm] at h
    have := mayF_len hm
    refine ⟨this.1, this.2, ?_⟩
    by_cases hw : sumF wtF l ≤ 2 ^ 15
    · exact hw
    · rw [if_neg hw] at h; omega
  · rw [if_neg hm] at h; omega
/-- Which error New has. -/
def terrF (l : List Int) : Int := if mayF l then (if sumF wtF l = 32768 ∨ (usedF l).length = 0 ∨ (usedF l).length = 1 ∧ sumF wtF l = 16384 then 0 else 2) else 1
def natI (l : List Nat) : List Int := l.map Int.ofNat
def partT (F : List Int) (k j : Nat) : List Nat := tsymsN F k ++ symsN F (k + 1) j
def lenT (l : List Nat) : Nat := l.length
theorem used_count (F : List Int) : ∀ k, k ≤ F.length → (usedN F k).length = (F.take k).countP fun x => decide (0 < x) := by
  intro k
  induction k with
  | zero => intro _; simp [usedN]
  | succ k ih =>
    intro h
    rw [usedN, List.take_add_one, getD_get (by omega), List.countP_append, ← ih (by omega)]
    split
    · next h1 => rw [List.length_append]; simp [List.countP_cons]; simpa using h1
    · next h1 => simp [List.countP_cons]; simpa using h1
theorem at_count (l : List Int) (hl : ∀ x ∈ l, 0 ≤ x) : ∀ n : Nat, atF l n = ((l.countP fun x : Int => decide (0 < x ∧ x < (n : Int)) : Nat) : Int) := by
  intro n
  induction n with
  | zero =>
    rw [atF, List.countP_eq_zero.2 (fun x _ => by simp; omega)]; rfl
  | succ n ih =>
    rw [atF, ih]
    unfold cntC cntL
    clear ih
    induction l with
    | nil => simp
    | cons x t ih =>
      have h1 := ih fun y hy => hl y (by simp [hy])
      have h2 := hl x (by simp)
      rw [List.countP_cons, List.countP_cons, List.countP_cons]
      by_cases hn : n = 0
      · subst hn
        simp only [if_pos] at h1 ⊢
        have e1 : ¬ (0 < x ∧ x < ((0 : Nat) : Int)) := by omega
        have e2 : ¬ (0 < x ∧ x < ((0 + 1 : Nat) : Int)) := by omega
        simp only [e1, e2, decide_false, Bool.false_eq_true, if_false]
        omega
      · rw [if_neg hn] at h1 ⊢
        have d2 : ∀ (p : Prop) [Decidable p], p → (if decide p = true then 1 else 0) = 1 := fun p _ h => by simp [h]
        have d3 : ∀ (p : Prop) [Decidable p], ¬ p → (if decide p = true then 1 else 0) = 0 := fun p _ h => by simp [h]
        by_cases e1 : 0 < x ∧ x < (n : Int)
        · rw [d2 _ e1, d3 (x = (n : Int)) (by omega), d2 (0 < x ∧ x < ((n + 1 : Nat) : Int)) (by omega)]
          omega
        · by_cases e2 : x = (n : Int)
          · rw [d3 _ e1, d2 _ e2, d2 (0 < x ∧ x < ((n + 1 : Nat) : Int)) (by omega)]
            omega
          · rw [d3 _ e1, d3 _ e2, d3 (0 < x ∧ x < ((n + 1 : Nat) : Int)) (by omega)]
            omega
theorem tsyms_used {l : List Int} (hl : ∀ x ∈ l, 0 ≤ x ∧ x ≤ 15) : (tsymsF l).length = (usedF l).length := by
  have h1 := tsymsN_length (l := l) 15
  rw [at_count l (fun x hx => (hl x hx).1)] at h1
  have h2 : (usedF l).length = l.countP fun x => decide (0 < x) := by
    unfold usedF
    rw [used_count l _ (Nat.le_refl _), List.take_length]
  have h3 : (l.countP fun x => decide (0 < x ∧ x < ((15 + 1 : Nat) : Int))) = l.countP fun x => decide (0 < x) := by
    refine List.countP_congr fun x hx => ?_
    have := hl x hx
    simp; omega
  rw [h3] at h1
  show (tsymsN l 15).length = _
  omega
theorem tsyms_len_le {l : List Int} (hl : ∀ x ∈ l, 0 ≤ x) (k : Nat) : (tsymsN l k).length ≤ l.length := by
  have h1 := tsymsN_length (l := l) k
  rw [at_count l hl] at h1
  have := List.countP_le_length (p := fun x : Int => decide (0 < x ∧ x < ((k + 1 : Nat) : Int))) (l := l)
  omega
theorem natI_snoc (l : List Nat) (j : Nat) : nums (natI l) ++ [.int .i64 j] = nums (natI (l ++ [j])) := by simp [nums, natI]
theorem few_weight : ∀ l : List Int, (∀ x ∈ l, 0 ≤ x ∧ x ≤ 15) → ((l.countP fun x => decide (0 < x)) = 0 → sumF wtF l = 0 ∧ cntL l 1 = 0) ∧ ((l.countP fun x => decide (0 < x)) = 1 → sumF wtF l ≤ 16384 ∧ (sumF wtF l = 16384 ↔ cntL l 1 = 1))
  | [], _ => by simp [sumF, cntL]
  | x :: t, hl => by
    have ih := few_weight t fun y hy => hl y (by simp [hy])
    have hx := hl x (by simp)
    rw [sumF_cons]
    unfold cntL at ih ⊢
    rw [List.countP_cons, List.countP_cons]
    by_cases h0 : 0 < x
    · have e0 : decide (0 < x) = true := by simp [h0]
      rw [e0, if_pos rfl]
      refine ⟨fun h => by omega, fun h => ?_⟩
      have h1 := ih.1 (by omega)
      rw [h1.1, h1.2]
      have hw : wtF x = 2 ^ (15 - x.toNat) := by unfold wtF; rw [if_pos h0]
      by_cases hx1 : x = 1
      · subst hx1
        rw [hw]; simp
      · have e1 : decide (x = ((1 : Nat) : Int)) = false := by simp; exact hx1
        rw [e1]
        have h2 : (2 : Int) ^ (15 - x.toNat) ≤ 2 ^ 13 := by
          have : (2 : Nat) ^ (15 - x.toNat) ≤ 2 ^ 13 := Nat.pow_le_pow_right (by omega) (by omega)
          exact_mod_cast this
        rw [hw]
        generalize (2 : Int) ^ (15 - x.toNat) = p at *
        simp
        omega
    · have e0 : decide (0 < x) = false := by simp; omega
      have e1 : decide (x = ((1 : Nat) : Int)) = false := by simp; omega
      have hw : wtF x = 0 := by unfold wtF; rw [if_neg h0]
      rw [e0, e1, hw]
      simpa using ih
/-- A bit put behind. -/
theorem or_low {c b : Int} (h0 : 0 ≤ c) (h1 : c ≤ 1000000000) (hb0 : 0 ≤ b) (hb1 : b ≤ 1) : bits .or .i64 (2 * c) b = 2 * c + b := by
  obtain ⟨m, rfl⟩ : ∃ m : Nat, c = m := ⟨c.toNat, by omega⟩
  obtain ⟨k, rfl⟩ : ∃ k : Nat, b = k := ⟨b.toNat, by omega⟩
  have e : (2 : Int) * (m : Int) = ((2 * m : Nat) : Int) := by omega
  rw [e]
  have h4 : 2 * m ||| k = 2 * m + k := by
    have : k = 0 ∨ k = 1 := by omega
    rcases this with rfl | rfl
    · simp
    · have := Nat.two_pow_add_eq_or_of_lt (i := 1) (b := 1) (by omega) m
      simpa using this.symm
  have key : IntKind.i64.wrap ((BitVec.ofInt 64 ((2 * m : Nat) : Int) ||| BitVec.ofInt 64 (k : Int)).toNat : Int) = ((2 * m : Nat) : Int) + k := by
    rw [BitVec.ofInt_natCast, BitVec.ofInt_natCast, BitVec.toNat_or, BitVec.toNat_ofNat, BitVec.toNat_ofNat, Nat.mod_eq_of_lt (by omega), Nat.mod_eq_of_lt (by omega), h4, IntKind.wrap_i64]
    omega
  exact key
/-- What a table needs. -/
theorem table_ok {l : List Int} (h : terrF l = 0) : l.length ≤ 320 ∧ (∀ x ∈ l, 0 ≤ x ∧ x ≤ 15) ∧ sumF wtF l ≤ 2 ^ 15 := by
  unfold terrF at h
  by_cases hm : mayF l = true
  · rw [if_pos hm] at h
    have := mayF_len hm
    refine ⟨this.1, this.2, ?_⟩
    by_cases hc : sumF wtF l = 32768 ∨ (usedF l).length = 0 ∨ (usedF l).length = 1 ∧ sumF wtF l = 16384
    · rcases hc with h1 | h1 | h1
      · omega
      · have h2 := few_weight l this.2
        unfold usedF at h1
        rw [used_count l _ (Nat.le_refl _), List.take_length] at h1
        have := (h2.1 h1).1
        omega
      · omega
    · rw [if_neg hc] at h; omega
  · rw [if_neg hm] at h; omega
theorem low_le {l : List Int} (hall : ∀ x ∈ l, 0 ≤ x ∧ x ≤ 15) (hw : sumF wtF l ≤ 2 ^ 15) (n : Nat) (hn : n ≤ 16) : 0 ≤ lowF l n ∧ lowF l n ≤ 65536 := by
  refine ⟨lowF_nonneg l n, ?_⟩
  cases n with
  | zero => rw [lowF_zero]; omega
  | succ n =>
    rw [lowF_succ]
    have h1 := low_room hall hw n (by omega)
    obtain ⟨p, hp, h2, h3⟩ := pow_pos_nat n (by omega)
    rw [hp] at h1
    omega
theorem atF_le {l : List Int} (hall : ∀ x ∈ l, 0 ≤ x ∧ x ≤ 15) (n : Nat) : 0 ≤ atF l n ∧ atF l n ≤ l.length := by
  rw [at_count l fun x hx => (hall x hx).1]
  have := List.countP_le_length (p := fun x : Int => decide (0 < x ∧ x < (n : Int))) (l := l)
  omega
/-- What Lengths gives, if it gives. -/
structure LenOk (F : List Int) (L : Int) (R : List Int) : Prop where
  lim : 1 ≤ L ∧ L ≤ 15
  few : F.length ≤ 320
  freq : ∀ f ∈ F, 0 ≤ f ∧ f ≤ 4294967296
  used : (symsF F).length ≤ 2 ^ L.toNat
  res : R = lengthsF F L.toNat
theorem len_ok {F : List Int} {L : Int} (h : errF F L = 0) : LenOk F L (resF F L) := by
  have h0 := h
  unfold errF at h
  by_cases hb : badArg F L = true
  · rw [if_pos hb] at h; omega
  · rw [if_neg hb] at h
    by_cases hu : 2 ^ L.toNat < (usedF F).length
    · rw [if_pos hu] at h; omega
    · unfold badArg at hb
      simp only [Bool.or_eq_true, decide_eq_true_eq, not_or] at hb
      obtain ⟨⟨⟨h1, h2⟩, h3⟩, h4⟩ := hb
      refine ⟨by omega, by omega, fun f hf => ?_, by rw [syms_length]; omega, ?_⟩
      · unfold anyBad at h4
        rw [List.any_eq_true] at h4
        have : ¬ badF f = true := fun hb => h4 ⟨f, hf, hb⟩
        simp only [badF, decide_eq_true_eq] at this
        omega
      · unfold resF; rw [if_pos h0]
section
variable {F R : List Int} {L : Int} (h : LenOk F L R)
include h
theorem LenOk.lim' : 1 ≤ L.toNat ∧ L.toNat ≤ 15 := by have := h.lim; omega
theorem LenOk.nn : ∀ f ∈ F, 0 ≤ f := fun f hf => (h.freq f hf).1
theorem LenOk.len : R.length = F.length := by rw [h.res, lengthsF_length]
theorem LenOk.get (j : Nat) (hj : j < F.length) : 0 ≤ R.getD j 0 ∧ R.getD j 0 ≤ L ∧ (R.getD j 0 = 0 ↔ F.getD j 0 = 0) := by
  rw [h.res]
  have := lengthsF_range h.lim' h.used h.nn j hj
  have := h.lim
  omega
theorem LenOk.all : ∀ x ∈ R, 0 ≤ x ∧ x ≤ 15 := fun x hx => by
  obtain ⟨j, hj, rfl⟩ := List.getElem_of_mem hx
  have h1 := h.get j (by rw [← h.len]; exact hj)
  rw [List.getD_eq_getElem?_getD, List.getElem?_eq_getElem hj] at h1
  have := h.lim
  simp only [Option.getD_some] at h1
  omega
theorem LenOk.weight : sumF wtF R = if (usedF F).length < 2 then ((usedF F).length : Int) * 16384 else 32768 := by
  rw [h.res, lengthsF_weight h.lim' h.used, syms_length]
  split <;> omega
end
end Go.Proofs.Ytljejkdkjnbmhaa
/- huff: what is written by codes is read, plainly. No program in sight. -/
namespace Go.Proofs.Ytljejkdkjnbmhaa

/-- A symbol's code, as bits. -/
def cbits (l : List Int) (s : Nat) : List Bool := (bitsOf (codeF l s) (l.getD s 0).toNat).reverse
theorem cbits_length (l : List Int) (s : Nat) : (cbits l s).length = (l.getD s 0).toNat := by unfold cbits; rw [List.length_reverse, bitsOf_length]
theorem cbits_get {l : List Int} {s i : Nat} (h : i < (l.getD s 0).toNat) : (cbits l s)[i]? = some (bitOf (codeF l s) ((l.getD s 0).toNat - 1 - i)) := by
  unfold cbits
  rw [List.getElem?_reverse (by rw [bitsOf_length]; exact h), bitsOf_length]
  unfold bitsOf
  rw [List.getElem?_map, List.getElem?_range (by omega)]
  rfl
theorem mem_getD2 {F : List Int} {i : Nat} (h : i < F.length) : F.getD i 0 ∈ F := by
  rw [List.getD_eq_getElem?_getD, List.getElem?_eq_getElem h]
  exact List.getElem_mem _
section
variable {l : List Int}
/-- Of a code each bit but the last leads on, and the last to its symbol. -/
theorem dec_code {s : Nat} (hs : s < l.length) (h0 : 0 < l.getD s 0) (h15 : l.getD s 0 ≤ 15) (rest : List Bool) :
    ∀ d i, i + d = (l.getD s 0).toNat → 0 < d → decN l (15 - i) i (codeF l s / 2 ^ d) ((cbits l s).drop i ++ rest) = ((s : Int), 0, d) := by
  obtain ⟨m, hm⟩ : ∃ m : Nat, l.getD s 0 = m := ⟨(l.getD s 0).toNat, by omega⟩
  have hmt : (l.getD s 0).toNat = m := by omega
  rw [hmt]
  have hlo : lowF l m ≤ codeF l s := by unfold codeF; rw [if_pos h0, hmt]; omega
  intro d
  induction d with
  | zero => intro i _ h; omega
  | succ d ih =>
    intro i hi _
    have hib : i < (cbits l s).length := by rw [cbits_length, hmt]; omega
    have hdrop : (cbits l s).drop i = bitOf (codeF l s) d :: (cbits l s).drop (i + 1) := by
      have h1 := cbits_get (l := l) (s := s) (i := i) (by omega)
      rw [hmt, show m - 1 - i = d by omega] at h1
      obtain ⟨h2, h3⟩ := List.getElem?_eq_some_iff.1 h1
      rw [List.drop_eq_getElem_cons h2, h3]
    have hc : 2 * (codeF l s / 2 ^ (d + 1)) + bi (bitOf (codeF l s) d) = codeF l s / 2 ^ d := by
      rw [bi_bitOf, Int.pow_succ, ← Int.ediv_ediv_of_nonneg (Int.le_of_lt (Int.pow_pos (by omega)))]
      omega
    rw [hdrop, List.cons_append, show 15 - i = (15 - (i + 1)) + 1 by omega, decN, hc]
    by_cases hd : d = 0
    · subst hd
      have e : codeF l s / 2 ^ 0 = codeF l s := by simp
      rw [e]
      have him : i + 1 = m := by omega
      have hat := (code_at (l := l) (n := i + 1) (s := s) (c := codeF l s) (by omega) (by rw [him]; exact hlo)).1 ⟨hs, by rw [hm, him], rfl⟩
      rw [hat]
    · have hfar := low_far l (i + 1) (d - 1)
      rw [show i + 1 + 1 + (d - 1) = m by omega, show d - 1 + 1 = d by omega] at hfar
      have hge : lowF l (i + 1) + cntC l (i + 1) ≤ codeF l s / 2 ^ d := by
        rw [Int.le_ediv_iff_mul_le (Int.pow_pos (by omega)), Int.mul_comm]
        omega
      have hnone : (symsL l (i + 1))[(codeF l s / 2 ^ d - lowF l (i + 1)).toNat]? = none := by
        refine List.getElem?_eq_none ?_
        rw [symsL_length]
        have : cntC l (i + 1) = cntL l (i + 1) := by unfold cntC; rw [if_neg (by omega)]
        omega
      rw [hnone, ih (i + 1) (by omega) (by omega)]
theorem dec_one {s : Nat} (hall : ∀ x ∈ l, 0 ≤ x ∧ x ≤ 15) (hw : sumF wtF l ≤ 2 ^ 15) (hs : s < l.length) (h0 : 0 < l.getD s 0) (rest : List Bool) : decF l (cbits l s ++ rest) = ((s : Int), 0, (l.getD s 0).toNat) := by
  have h15 := (hall _ (mem_getD2 hs)).2
  have h := dec_code hs h0 h15 rest (l.getD s 0).toNat 0 (by omega) (by omega)
  have hf := code_fits hall hw hs h0
  have e : codeF l s / 2 ^ (l.getD s 0).toNat = 0 := Int.ediv_eq_zero_of_lt (code_nonneg s) hf
  rw [e] at h
  exact h
/-- Of frequencies' lengths there are codes, and a table. -/
theorem LenOk.cod {F R : List Int} {L : Int} (h : LenOk F L R) : cerrF R = 0 ∧ terrF R = 0 ∧ cresF R = codesF R := by
  have hmy : mayF R = true := by
    unfold mayF
    rw [h.len, decide_eq_true h.few, Bool.true_and, List.all_eq_true]
    intro x hx
    have := h.all x hx
    simp [okLen]; omega
  have hus : (usedF R).length = (usedF F).length := by
    have : ∀ k, k ≤ F.length → usedN R k = usedN F k := by
      intro k
      induction k with
      | zero => intro _; rfl
      | succ k ih =>
        intro hk
        rw [usedN, usedN, ih (by omega)]
        have h1 := h.get k (by omega)
        have h2 := getD_nonneg h.nn k
        by_cases hp : 0 < F.getD k 0
        · rw [if_pos hp, if_pos (by omega)]
        · rw [if_neg hp, if_neg (by omega)]
    unfold usedF
    rw [h.len, this _ (Nat.le_refl _)]
  have hw := h.weight
  have hc : cerrF R = 0 := by
    unfold cerrF
    rw [if_pos hmy, if_pos]
    rw [hw]
    split <;> omega
  refine ⟨hc, ?_, by unfold cresF; rw [if_pos hc]⟩
  unfold terrF
  rw [if_pos hmy, hus, if_pos]
  rw [hw]
  by_cases h2 : (usedF F).length < 2
  · rw [if_pos h2]; omega
  · rw [if_neg h2]; omega
/-- All that is written. -/
def allBits (l : List Int) (P : List Nat) : List Bool := P.flatMap (cbits l)
end
end Go.Proofs.Ytljejkdkjnbmhaa
/- flate: symbols of lengths and distances, plainly. No program in sight. -/
namespace Go.Proofs.Ytljejkdkjnbmhaa

/-- How many bits more: the least e with n / 2^e below 2^(st+1). -/
def exN (st n : Nat) : Nat → Nat → Nat
  | 0, e => e
  | f + 1, e => if 2 ^ (st + 1) ≤ n / 2 ^ e then exN st n f (e + 1) else e
def exF (st n : Nat) : Nat := exN st n 64 0
def bandF (st n : Nat) : Nat × Nat × Nat := (exF st n * 2 ^ st + n / 2 ^ exF st n, exF st n, n % 2 ^ exF st n)
def lenSym (n : Nat) : Nat × Nat × Nat := if n = 258 then (285, 0, 0) else if n < 11 then (254 + n, 0, 0) else (257 + (bandF 2 (n - 3)).1, (bandF 2 (n - 3)).2)
def distSym (n : Nat) : Nat × Nat × Nat := if n < 5 then (n - 1, 0, 0) else bandF 1 (n - 1)
/-- The document's tables: the first number of each symbol, how many bits more. -/
def lensT : List (Nat × Nat) := [(3, 0), (4, 0), (5, 0), (6, 0), (7, 0), (8, 0), (9, 0), (10, 0), (11, 1), (13, 1), (15, 1), (17, 1), (19, 2), (23, 2), (27, 2), (31, 2), (35, 3), (43, 3), (51, 3), (59, 3), (67, 4), (83, 4), (99, 4), (115, 4), (131, 5), (163, 5), (195, 5), (227, 5), (258, 0)]
def distsT : List (Nat × Nat) := [(1, 0), (2, 0), (3, 0), (4, 0), (5, 1), (7, 1), (9, 2), (13, 2), (17, 3), (25, 3), (33, 4), (49, 4), (65, 5), (97, 5), (129, 6), (193, 6), (257, 7), (385, 7), (513, 8), (769, 8), (1025, 9), (1537, 9), (2049, 10), (3073, 10), (4097, 11), (6145, 11), (8193, 12), (12289, 12), (16385, 13), (24577, 13)]
/-- The last symbol whose first number is not above. -/
def findT (n : Nat) : List (Nat × Nat) → Nat → Nat × Nat × Nat → Nat × Nat × Nat
  | [], _, r => r
  | (a, k) :: t, i, r => findT n t (i + 1) (if a ≤ n then (i, k, n - a) else r)
def refLen (n : Nat) : Nat × Nat × Nat := findT n lensT 257 (257, 0, 0)
def refDist (n : Nat) : Nat × Nat × Nat := findT n distsT 0 (0, 0, 0)
theorem len_same : ∀ x : Fin 256, lenSym (x.1 + 3) = refLen (x.1 + 3) := by decide +kernel
/-- All of 2^d from a on. -/
def chk (p : Nat → Bool) : Nat → Nat → Bool
  | 0, a => p a
  | d + 1, a => chk p d a && chk p d (a + 2 ^ d)
theorem chk_all {p : Nat → Bool} : ∀ (d a : Nat), chk p d a = true → ∀ x, x < 2 ^ d → p (a + x) = true := by
  intro d
  induction d with
  | zero => intro a h x hx; have : x = 0 := by simpa using hx
            subst this; exact h
  | succ d ih =>
    intro a h x hx
    rw [chk, Bool.and_eq_true] at h
    rcases Nat.lt_or_ge x (2 ^ d) with h1 | h1
    · exact ih a h.1 x h1
    · have := ih (a + 2 ^ d) h.2 (x - 2 ^ d) (by rw [Nat.pow_succ] at hx; omega)
      rwa [show a + 2 ^ d + (x - 2 ^ d) = a + x by omega] at this
def distOk (x : Nat) : Bool := decide (distSym (x + 1) = refDist (x + 1))
theorem dist_chk0 : chk distOk 11 0 = true := by decide +kernel
theorem dist_chk1 : chk distOk 11 2048 = true := by decide +kernel
theorem dist_chk2 : chk distOk 11 4096 = true := by decide +kernel
theorem dist_chk3 : chk distOk 11 6144 = true := by decide +kernel
theorem dist_chk4 : chk distOk 11 8192 = true := by decide +kernel
theorem dist_chk5 : chk distOk 11 10240 = true := by decide +kernel
theorem dist_chk6 : chk distOk 11 12288 = true := by decide +kernel
theorem dist_chk7 : chk distOk 11 14336 = true := by decide +kernel
theorem dist_chk8 : chk distOk 11 16384 = true := by decide +kernel
theorem dist_chk9 : chk distOk 11 18432 = true := by decide +kernel
theorem dist_chk10 : chk distOk 11 20480 = true := by decide +kernel
theorem dist_chk11 : chk distOk 11 22528 = true := by decide +kernel
theorem dist_chk12 : chk distOk 11 24576 = true := by decide +kernel
theorem dist_chk13 : chk distOk 11 26624 = true := by decide +kernel
theorem dist_chk14 : chk distOk 11 28672 = true := by decide +kernel
theorem dist_chk15 : chk distOk 11 30720 = true := by decide +kernel
theorem dist_same (x : Nat) (h : x < 32768) : distSym (x + 1) = refDist (x + 1) := by
  have key : ∀ k, k < 16 → chk distOk 11 (2048 * k) = true := by
    intro k hk
    match k, hk with
    | 0, _ => exact dist_chk0
    | 1, _ => exact dist_chk1
    | 2, _ => exact dist_chk2
    | 3, _ => exact dist_chk3
    | 4, _ => exact dist_chk4
    | 5, _ => exact dist_chk5
    | 6, _ => exact dist_chk6
    | 7, _ => exact dist_chk7
    | 8, _ => exact dist_chk8
    | 9, _ => exact dist_chk9
    | 10, _ => exact dist_chk10
    | 11, _ => exact dist_chk11
    | 12, _ => exact dist_chk12
    | 13, _ => exact dist_chk13
    | 14, _ => exact dist_chk14
    | 15, _ => exact dist_chk15
    | n + 16, h => exact absurd h (by omega)
  have := chk_all 11 (2048 * (x / 2048)) (key _ (by omega)) (x % 2048) (by omega)
  rw [show 2048 * (x / 2048) + x % 2048 = x by omega] at this
  exact of_decide_eq_true this
theorem len_same' (n : Nat) (h : 3 ≤ n ∧ n ≤ 258) : lenSym n = refLen n := by
  have := len_same ⟨n - 3, by omega⟩
  simpa [show n - 3 + 3 = n by omega] using this
theorem dist_same' (n : Nat) (h : 1 ≤ n ∧ n ≤ 32768) : distSym n = refDist n := by
  have := dist_same (n - 1) (by omega)
  rwa [show n - 1 + 1 = n by omega] at this
end Go.Proofs.Ytljejkdkjnbmhaa
/- lz: what stands in a text already. No program in sight. -/
namespace Go.Proofs.Ytljejkdkjnbmhaa

/-- The i-th byte. -/
def byt (s : ByteArray) (i : Nat) : UInt8 := s.data.getD i 0
/-- How many bytes at two places are the same, at most so many. -/
def commN (s : ByteArray) : Nat → Nat → Nat → Nat
  | 0, _, _ => 0
  | f + 1, a, b => if b < s.size ∧ byt s a = byt s b then commN s f (a + 1) (b + 1) + 1 else 0
def comm (s : ByteArray) (a b : Nat) : Nat := commN s 258 a b
theorem commN_le (s : ByteArray) : ∀ f a b, commN s f a b ≤ f := by
  intro f
  induction f with
  | zero => intro a b; exact Nat.le_refl _
  | succ f ih =>
    intro a b
    unfold commN
    split
    · have := ih (a + 1) (b + 1); omega
    · omega
/-- It is known by what it is. -/
theorem commN_is (s : ByteArray) : ∀ f a b n, n ≤ f → (∀ j, j < n → b + j < s.size ∧ byt s (a + j) = byt s (b + j)) → (n = f ∨ ¬ (b + n < s.size ∧ byt s (a + n) = byt s (b + n))) → commN s f a b = n := by
  intro f
  induction f with
  | zero => intro a b n hn _ _; unfold commN; omega
  | succ f ih =>
    intro a b n hn h1 h2
    cases n with
    | zero =>
      unfold commN
      rw [if_neg (by rcases h2 with h | h; exact absurd h (by omega); simpa using h)]
    | succ n =>
      have h0 := h1 0 (by omega)
      unfold commN
      rw [if_pos (by simpa using h0), ih (a + 1) (b + 1) n (by omega) (fun j hj => ?_) ?_]
      · rcases h2 with h | h
        · exact .inl (by omega)
        · right
          rw [show a + 1 + n = a + (n + 1) by omega, show b + 1 + n = b + (n + 1) by omega]
          exact h
      · have := h1 (j + 1) (by omega)
        rw [show a + 1 + j = a + (j + 1) by omega, show b + 1 + j = b + (j + 1) by omega]
        exact this
theorem comm_is {s : ByteArray} {a b n : Nat} (hn : n ≤ 258) (h1 : ∀ j, j < n → b + j < s.size ∧ byt s (a + j) = byt s (b + j)) (h2 : n = 258 ∨ ¬ (b + n < s.size ∧ byt s (a + n) = byt s (b + n))) : comm s a b = n := commN_is s 258 a b n hn h1 h2
theorem commN_get (s : ByteArray) : ∀ f a b j, j < commN s f a b → b + j < s.size ∧ byt s (a + j) = byt s (b + j) := by
  intro f
  induction f with
  | zero => intro a b j hj; unfold commN at hj; omega
  | succ f ih =>
    intro a b j hj
    unfold commN at hj
    split at hj
    · next h =>
      cases j with
      | zero => simpa using h
      | succ j =>
        have := ih (a + 1) (b + 1) j (by omega)
        rw [show a + 1 + j = a + (j + 1) by omega, show b + 1 + j = b + (j + 1) by omega] at this
        exact this
    · omega
theorem comm_get {s : ByteArray} {a b j : Nat} (h : j < comm s a b) : b + j < s.size ∧ byt s (a + j) = byt s (b + j) := commN_get s 258 a b j h
theorem comm_le (s : ByteArray) (a b : Nat) : comm s a b ≤ 258 := commN_le s 258 a b

/-- The three bytes at a place. -/
def key3 (s : ByteArray) (i : Nat) : UInt8 × UInt8 × UInt8 := (byt s i, byt s (i + 1), byt s (i + 2))
theorem comm3 {s : ByteArray} {a b : Nat} (h : key3 s a = key3 s b) (hb : b + 3 ≤ s.size) : 3 ≤ comm s a b := by
  simp only [key3, Prod.mk.injEq] at h
  obtain ⟨h0, h1, h2⟩ := h
  unfold comm
  rw [show (258 : Nat) = 255 + 3 by rfl]
  unfold commN
  rw [if_pos ⟨by omega, h0⟩]
  unfold commN
  rw [if_pos ⟨by omega, h1⟩]
  unfold commN
  rw [if_pos ⟨by omega, h2⟩]
  omega
theorem comm3' {s : ByteArray} {a b : Nat} (h : 3 ≤ comm s a b) : key3 s a = key3 s b ∧ b + 3 ≤ s.size := by
  have h0 := comm_get (j := 0) (Nat.lt_of_lt_of_le (by omega) h)
  have h1 := comm_get (j := 1) (Nat.lt_of_lt_of_le (by omega) h)
  have h2 := comm_get (j := 2) (Nat.lt_of_lt_of_le (by omega) h)
  simp only [Nat.add_zero] at h0
  exact ⟨by simp [key3, h0.2, h1.2, h2.2], by omega⟩

/-- The latest place ahead of the n-th where three bytes stand, and one more; 0: there is none. -/
def prev (s : ByteArray) (k : UInt8 × UInt8 × UInt8) : Nat → Nat
  | 0 => 0
  | n + 1 => if n + 3 ≤ s.size ∧ key3 s n = k then n + 1 else prev s k n
theorem prev_le (s : ByteArray) (k : UInt8 × UInt8 × UInt8) : ∀ n, prev s k n ≤ n := by
  intro n
  induction n with
  | zero => exact Nat.le_refl _
  | succ n ih => unfold prev; split <;> omega
theorem prev_key {s : ByteArray} {k : UInt8 × UInt8 × UInt8} : ∀ n, 0 < prev s k n → key3 s (prev s k n - 1) = k ∧ prev s k n - 1 + 3 ≤ s.size := by
  intro n
  induction n with
  | zero => intro h; unfold prev at h; omega
  | succ n ih =>
    intro h
    unfold prev at h ⊢
    split
    · next h1 => exact ⟨by simpa using h1.2, by simpa using h1.1⟩
    · next h1 => rw [if_neg h1] at h; exact ih h
theorem prev_none {s : ByteArray} {k : UInt8 × UInt8 × UInt8} : ∀ n q, prev s k n ≤ q → q < n → ¬ (q + 3 ≤ s.size ∧ key3 s q = k) := by
  intro n
  induction n with
  | zero => intro q _ h; omega
  | succ n ih =>
    intro q h1 h2
    unfold prev at h1
    split at h1
    · omega
    · next h =>
      by_cases hq : q = n
      · subst hq; exact h
      · exact ih q h1 (by omega)

/-- The longest, and how far back it is, of those up to so far back; the nearest of these. -/
def best (s : ByteArray) (at_ : Nat) : Nat → Nat × Nat
  | 0 => (0, 0)
  | d + 1 => if (best s at_ d).1 < comm s (at_ - (d + 1)) at_ then (comm s (at_ - (d + 1)) at_, d + 1) else best s at_ d
/-- What is long enough. -/
def trim (p : Nat × Nat) : Nat × Nat := if 3 ≤ p.1 then p else (0, 0)
theorem trim_skip {s : ByteArray} {at_ d : Nat} (h : comm s (at_ - (d + 1)) at_ < 3) : trim (best s at_ (d + 1)) = trim (best s at_ d) := by
  have e2 : best s at_ (d + 1) = if (best s at_ d).1 < comm s (at_ - (d + 1)) at_ then (comm s (at_ - (d + 1)) at_, d + 1) else best s at_ d := by rw [best]
  rw [e2]
  split
  · next h1 =>
    unfold trim
    rw [if_neg (by simp only; omega), if_neg (by omega)]
  · rfl
theorem trim_hit {s : ByteArray} {at_ d : Nat} (h : 3 ≤ comm s (at_ - (d + 1)) at_) :
    trim (best s at_ (d + 1)) = if (trim (best s at_ d)).1 < comm s (at_ - (d + 1)) at_ then (comm s (at_ - (d + 1)) at_, d + 1) else trim (best s at_ d) := by
  by_cases hl : 3 ≤ (best s at_ d).1
  · have e : trim (best s at_ d) = best s at_ d := by unfold trim; rw [if_pos hl]
    rw [e]
    have e2 : best s at_ (d + 1) = if (best s at_ d).1 < comm s (at_ - (d + 1)) at_ then (comm s (at_ - (d + 1)) at_, d + 1) else best s at_ d := by rw [best]
    rw [e2]
    split
    · unfold trim; rw [if_pos h]
    · unfold trim; rw [if_pos hl]
  · have e : trim (best s at_ d) = (0, 0) := by unfold trim; rw [if_neg hl]
    rw [e, if_pos (by simp only; omega)]
    have e2 : best s at_ (d + 1) = (comm s (at_ - (d + 1)) at_, d + 1) := by rw [best, if_pos (by omega)]
    rw [e2]
    unfold trim; rw [if_pos h]
/-- From one place to a place ahead, where nothing that is long enough stands between. -/
theorem trim_skips {s : ByteArray} {at_ d : Nat} : ∀ e, (∀ q, d ≤ q → q < e → comm s (at_ - (q + 1)) at_ < 3) → d ≤ e → trim (best s at_ e) = trim (best s at_ d) := by
  intro e
  induction e with
  | zero => intro _ h; have : d = 0 := by omega
            rw [this]
  | succ e ih =>
    intro h hle
    by_cases hd : d = e + 1
    · rw [hd]
    · rw [trim_skip (h e (by omega) (by omega)), ih (fun q h1 h2 => h q h1 (by omega)) (by omega)]
/-- What has been looked at, when the next one to look at is p - 1. -/
def seen (s : ByteArray) (at_ p : Nat) : Nat × Nat := trim (best s at_ (min (at_ - p) 4096))
theorem seen_skip {s : ByteArray} {at_ m : Nat} (hm : m ≤ at_) : seen s at_ (prev s (key3 s at_) m) = seen s at_ m := by
  unfold seen
  have hp := prev_le s (key3 s at_) m
  refine trim_skips _ (fun q h1 h2 => ?_) (by omega)
  rcases Nat.lt_or_ge (comm s (at_ - (q + 1)) at_) 3 with h | h
  · exact h
  · exfalso
    obtain ⟨hk, hsz⟩ := comm3' h
    exact prev_none m (at_ - (q + 1)) (by omega) (by omega) ⟨by omega, hk⟩
theorem seen_start (s : ByteArray) (at_ : Nat) : seen s at_ at_ = (0, 0) := by
  unfold seen
  rw [Nat.sub_self]
  rfl
theorem seen_hit {s : ByteArray} {at_ p : Nat} (hp : 0 < p) (hpa : p ≤ at_) (hw : at_ - (p - 1) ≤ 4096) (hk : key3 s (p - 1) = key3 s at_) (ha : at_ + 3 ≤ s.size) :
    seen s at_ (p - 1) = if (seen s at_ p).1 < comm s (p - 1) at_ then (comm s (p - 1) at_, at_ - (p - 1)) else seen s at_ p := by
  have h3 := comm3 hk ha
  unfold seen
  rw [show min (at_ - (p - 1)) 4096 = (at_ - p) + 1 by omega, show min (at_ - p) 4096 = at_ - p by omega]
  have e : at_ - (at_ - p + 1) = p - 1 := by omega
  rw [trim_hit (by rw [e]; exact h3), e, show at_ - p + 1 = at_ - (p - 1) by omega]
/-- What is found at a place. -/
def found (s : ByteArray) (at_ : Nat) : Nat × Nat := trim (best s at_ (min at_ 4096))
theorem seen_end {s : ByteArray} {at_ p : Nat} (hpa : p ≤ at_) (h : p = 0 ∨ 4096 < at_ - (p - 1)) : seen s at_ p = found s at_ := by
  unfold seen found
  rcases h with h | h
  · subst h; rfl
  · rw [show min (at_ - p) 4096 = min at_ 4096 by omega]
theorem found_none {s : ByteArray} {at_ : Nat} (h : s.size < at_ + 3) : found s at_ = (0, 0) := by
  unfold found
  rw [trim_skips (d := 0) _ (fun q _ _ => ?_) (by omega)]
  · rfl
  · rcases Nat.lt_or_ge (comm s (at_ - (q + 1)) at_) 3 with h1 | h1
    · exact h1
    · have := (comm3' h1).2; omega
theorem best_far (s : ByteArray) (at_ : Nat) : ∀ d, (best s at_ d).2 ≤ d ∧ (0 < (best s at_ d).1 → 1 ≤ (best s at_ d).2 ∧ (best s at_ d).1 = comm s (at_ - (best s at_ d).2) at_) ∧ (best s at_ d).1 ≤ 258 := by
  intro d
  induction d with
  | zero => simp [best]
  | succ d ih =>
    rw [best]
    split
    · exact ⟨Nat.le_refl _, fun _ => ⟨by simp, rfl⟩, comm_le ..⟩
    · exact ⟨by omega, ih.2.1, ih.2.2⟩
end Go.Proofs.Ytljejkdkjnbmhaa
/- lz: a text's tokens, plainly. -/
namespace Go.Proofs.Ytljejkdkjnbmhaa

structure Tok where
  len : Int
  dist : Int
  lit : Int
deriving DecidableEq
def tcell (t : Tok) : List Value := [.int .i64 t.len, .int .i64 t.dist, .int .i64 t.lit]
def tval (t : Tok) : Value := .agg #[.int .i64 t.len, .int .i64 t.dist, .int .i64 t.lit]
theorem tcell_length (t : Tok) : (tcell t).length = 3 := rfl
theorem tcell_one (t : Tok) : ∀ u ∈ tcell t, u.oneCell' = true := by intro u hu; simp [tcell] at hu; rcases hu with rfl | rfl | rfl <;> rfl
/-- The token at a place. -/
def tokAt (s : ByteArray) (i : Nat) : Tok := if 3 ≤ (found s i).1 then ⟨(found s i).1, (found s i).2, 0⟩ else ⟨0, 0, (byt s i).toNat⟩
def stepAt (s : ByteArray) (i : Nat) : Nat := if 3 ≤ (found s i).1 then (found s i).1 else 1
/-- The tokens from a place on. -/
def parseN (s : ByteArray) : Nat → Nat → List Tok
  | 0, _ => []
  | f + 1, i => if i < s.size then tokAt s i :: parseN s f (i + stepAt s i) else []
def parse (s : ByteArray) : List Tok := parseN s s.size 0
theorem parseN_end {s : ByteArray} {f i : Nat} (h : s.size ≤ i) : parseN s f i = [] := by
  cases f with
  | zero => rfl
  | succ f => rw [parseN, if_neg (by omega)]
theorem found_is (s : ByteArray) (i : Nat) : found s i = best s i (min i 4096) ∧ 3 ≤ (found s i).1 ∨ found s i = (0, 0) := by
  unfold found trim
  split
  · next h => exact .inl ⟨rfl, h⟩
  · exact .inr rfl
theorem found_comm {s : ByteArray} {i : Nat} (h : 3 ≤ (found s i).1) : 1 ≤ (found s i).2 ∧ (found s i).2 ≤ i ∧ (found s i).2 ≤ 4096 ∧ (found s i).1 ≤ 258 ∧ (found s i).1 = comm s (i - (found s i).2) i := by
  rcases found_is s i with ⟨he, _⟩ | he
  · rw [he] at h ⊢
    have hb := best_far s i (min i 4096)
    have h2 := hb.2.1 (by omega)
    exact ⟨h2.1, by omega, by omega, hb.2.2, h2.2⟩
  · rw [he] at h; simp at h
theorem found_le {s : ByteArray} {i : Nat} (h : 3 ≤ (found s i).1) : i + (found s i).1 ≤ s.size := by
  have hc := (found_comm h).2.2.2.2
  have := comm_get (s := s) (a := i - (found s i).2) (b := i) (j := (found s i).1 - 1) (by omega)
  omega
theorem stepAt_pos (s : ByteArray) (i : Nat) : 1 ≤ stepAt s i := by unfold stepAt; split <;> omega
theorem stepAt_le {s : ByteArray} {i : Nat} (hi : i < s.size) : i + stepAt s i ≤ s.size := by
  unfold stepAt
  split
  · next h => exact found_le h
  · omega
end Go.Proofs.Ytljejkdkjnbmhaa
/- lz: the text of tokens, plainly. -/
namespace Go.Proofs.Ytljejkdkjnbmhaa

/-- May a token stand behind so many bytes? -/
def may (t : Tok) (n : Nat) : Bool :=
  if t.len = 0 then decide (t.dist = 0 ∧ 0 ≤ t.lit ∧ t.lit < 256) else decide (t.lit = 0 ∧ 3 ≤ t.len ∧ t.len ≤ 258 ∧ 1 ≤ t.dist ∧ t.dist ≤ 32768 ∧ t.dist ≤ n)
/-- So many bytes more, each as the one so far back. -/
def copyN (d : Nat) (out : List Int) : Nat → List Int
  | 0 => out
  | k + 1 => copyN d out k ++ [(copyN d out k).getD ((copyN d out k).length - d) 0]
theorem copyN_length (d : Nat) (out : List Int) : ∀ k, (copyN d out k).length = out.length + k := by
  intro k
  induction k with
  | zero => rfl
  | succ k ih => rw [copyN, List.length_append, ih]; simp; omega
inductive Res where
  | err (e : Nat)
  | ok (out : List Int)
/-- The text of tokens, behind some bytes. -/
def exp (most : Int) : List Tok → List Int → Res
  | [], out => .ok out
  | t :: l, out =>
    if may t out.length = false then .err 2
    else if IntKind.i64.wrap (most - out.length) < max t.len 1 then .err 12
    else if t.len = 0 then exp most l (out ++ [t.lit])
    else exp most l (copyN t.dist.toNat out t.len.toNat)
end Go.Proofs.Ytljejkdkjnbmhaa
/- inflate: unpacking, plainly. No program in sight. -/
namespace Go.Proofs.Ytljejkdkjnbmhaa

/-- What a part of unpacking yields: a value, and where the next bit stands; the bits ran out; a fault. -/
inductive Got (α : Type) where
  | ok (v : α) (n : Nat)
  | ran
  | bad (e : Int)
def Got.bind {α β : Type} (g : Got α) (f : α → Nat → Got β) : Got β := match g with
  | .ok v n => f v n
  | .ran => .ran
  | .bad e => .bad e
theorem Got.bind_ok {α β : Type} (v : α) (n : Nat) (f : α → Nat → Got β) : (Got.ok v n).bind f = f v n := rfl
theorem Got.bind_ran {α β : Type} (f : α → Nat → Got β) : (Got.ran : Got α).bind f = .ran := rfl
theorem Got.bind_inv {α β : Type} {g : Got α} {f : α → Nat → Got β} {w : β} {m : Nat} (h : g.bind f = .ok w m) : ∃ v n, g = .ok v n ∧ f v n = .ok w m := by
  cases g with
  | ok v n => exact ⟨v, n, rfl, h⟩
  | ran => cases h
  | bad e => cases h

def takeG (bs : List Bool) (k n : Nat) : Got Int := if n + k ≤ bs.length then .ok (valOf ((bs.drop n).take k)) (n + k) else .ran
def symG (bs : List Bool) (L : List Int) (n : Nat) : Got Int :=
  if (decF L (bs.drop n)).2.1 = 0 then .ok (decF L (bs.drop n)).1 (n + (decF L (bs.drop n)).2.2)
  else if (decF L (bs.drop n)).2.2 < 15 then .ran else .bad 2
/-- A block of bytes. -/
def bytesAt (bs : List Bool) (n k : Nat) : List Int := bytesOf ((bs.drop n).take (8 * k))
def storedG (bs : List Bool) (most : Int) (out : List Int) (n0 : Nat) : Got (List Int) :=
  (takeG bs 16 (8 * nbytes n0)).bind fun a n1 => (takeG bs 16 n1).bind fun b n2 =>
    if a + b = 65535 then
      (if n2 + 8 * a.toNat ≤ bs.length then (if most - out.length < a then .bad 12 else .ok (out ++ bytesAt bs n2 a.toNat) (n2 + 8 * a.toNat)) else .ran)
    else .bad 2
/-- Lengths of lengths' codes, as they stand; as they are meant. -/
def lensG (bs : List Bool) : Nat → List Int → Nat → Got (List Int)
  | 0, xs, n => .ok xs n
  | k + 1, xs, n => (takeG bs 3 n).bind fun v n1 => lensG bs k (xs ++ [v]) n1
def ordN (i : Nat) : Nat := [16, 17, 18, 0, 8, 7, 9, 6, 10, 5, 11, 4, 12, 3, 13, 2, 14, 1, 15].getD i 0
def unordN (xs : List Int) : Nat → List Int
  | 0 => zerosF 19
  | k + 1 => (unordN xs k).set (ordN k) (xs.getD k 0)
def unordF (xs : List Int) : List Int := unordN xs 19
/-- Lengths of codes, up to N. -/
def lengthsG (bs : List Bool) (T : List Int) (N : Nat) (l : List Int) (n : Nat) : Got (List Int) :=
  if h : N ≤ l.length then .ok l n
  else (symG bs T n).bind fun c n1 =>
    if c < 16 then lengthsG bs T N (l ++ [c]) n1
    else if c = 16 then
      (if l.length = 0 then .bad 2
       else (takeG bs 2 n1).bind fun v n2 => if N < l.length + (3 + v.toNat) then .bad 2 else lengthsG bs T N (l ++ List.replicate (3 + v.toNat) (l.getD (l.length - 1) 0)) n2)
    else if c = 17 then (takeG bs 3 n1).bind fun v n2 => if N < l.length + (3 + v.toNat) then .bad 2 else lengthsG bs T N (l ++ List.replicate (3 + v.toNat) 0) n2
    else (takeG bs 7 n1).bind fun v n2 => if N < l.length + (11 + v.toNat) then .bad 2 else lengthsG bs T N (l ++ List.replicate (11 + v.toNat) 0) n2
termination_by N - l.length
decreasing_by all_goals (simp only [List.length_append, List.length_cons, List.length_nil, List.length_replicate]; omega)
/-- Both codes of a block that tells them. -/
def codesG (bs : List Bool) (n0 : Nat) : Got (List Int × List Int) :=
  (takeG bs 5 n0).bind fun a n1 => (takeG bs 5 n1).bind fun b n2 => (takeG bs 4 n2).bind fun c n3 =>
    if 29 < a ∨ 29 < b then .bad 2
    else (lensG bs (4 + c.toNat) [] n3).bind fun xs n4 =>
      if terrF (unordF xs) = 0 then
        (lengthsG bs (unordF xs) (257 + a.toNat + (1 + b.toNat)) [] n4).bind fun l n5 =>
          if l.getD 256 0 ≠ 0 ∧ terrF (l.take (257 + a.toNat)) = 0 ∧ terrF (l.drop (257 + a.toNat)) = 0 then .ok (l.take (257 + a.toNat), l.drop (257 + a.toNat)) n5 else .bad 2
      else .bad 2
def lenT0 (c : Nat) : Nat × Nat := lensT.getD (c - 257) (0, 0)
def distT0 (c : Nat) : Nat × Nat := distsT.getD c (0, 0)
/-- A token, or a block's end. -/
def tokG (bs : List Bool) (most : Int) (L D : List Int) (out : List Int) (n0 : Nat) : Got (Option (List Int)) :=
  (symG bs L n0).bind fun c n1 =>
    if c = 256 then .ok none n1
    else if c < 256 then (if most - out.length < 1 then .bad 12 else .ok (some (out ++ [c])) n1)
    else if 285 < c then .bad 2
    else (takeG bs (lenT0 c.toNat).2 n1).bind fun v n2 => (symG bs D n2).bind fun k n3 =>
      if 29 < k then .bad 2
      else (takeG bs (distT0 k.toNat).2 n3).bind fun u n4 =>
        if (out.length : Int) < (distT0 k.toNat).1 + u then .bad 2
        else if most - out.length < (lenT0 c.toNat).1 + v then .bad 12
        else .ok (some (copyN ((distT0 k.toNat).1 + u.toNat) out ((lenT0 c.toNat).1 + v.toNat))) n4

/-- Where unpacking stands: the next bit, what there is, the codes of the block it is in, whether that is the last. -/
structure Inf where
  n : Nat
  out : List Int
  tab : Option (List Int × List Int)
  last : Bool
def fixTab : List Int × List Int := (List.replicate 144 8 ++ List.replicate 112 9 ++ List.replicate 24 7 ++ List.replicate 8 8, List.replicate 32 5)
def headG (bs : List Bool) (most : Int) (st : Inf) : Got Inf :=
  (takeG bs 1 st.n).bind fun a n1 => (takeG bs 2 n1).bind fun k n2 =>
    if k = 0 then (storedG bs most st.out n2).bind fun o n3 => .ok ⟨n3, o, none, decide (a = 1)⟩ n3
    else if k = 1 then .ok ⟨n2, st.out, some fixTab, decide (a = 1)⟩ n2
    else if k = 2 then (codesG bs n2).bind fun t n3 => .ok ⟨n3, st.out, some t, decide (a = 1)⟩ n3
    else .bad 2
def stepG (bs : List Bool) (most : Int) (st : Inf) : Got Inf := match st.tab with
  | none => headG bs most st
  | some t => (tokG bs most t.1 t.2 st.out st.n).bind fun r n1 => match r with
    | none => .ok ⟨n1, st.out, none, st.last⟩ n1
    | some o => .ok ⟨n1, o, some t, st.last⟩ n1
def Inf.done (st : Inf) : Bool := st.last && st.tab.isNone
def Inf.init : Inf := ⟨0, [], none, false⟩
/-- The end: what there is, and where the next bit stands; or a fault (2: also where the bits ran out). -/
inductive Fin' where
  | ok (out : List Int) (n : Nat)
  | err (e : Int)
  | more
def runG (bs : List Bool) (most : Int) : Nat → Inf → Fin'
  | 0, _ => .more
  | f + 1, st => if st.done then .ok st.out st.n else match stepG bs most st with
    | .ok st' _ => runG bs most f st'
    | .ran => .err 2
    | .bad e => .err e

/-! ### where the next bit stands -/
structure Goes {α : Type} (bs : List Bool) (F : Got α) (n d : Nat) : Prop where
  le : ∀ v m, F = .ok v m → n + d ≤ m ∧ m ≤ bs.length
theorem Goes.zero {α : Type} {bs : List Bool} {F : Got α} {n d : Nat} (h : Goes bs F n d) : Goes bs F n 0 := ⟨fun v m e => by have := h.le v m e; omega⟩
theorem goes_take (bs : List Bool) (k n : Nat) : Goes bs (takeG bs k n) n k := ⟨fun v m h => by
  unfold takeG at h
  split at h
  · cases h; omega
  · cases h⟩
theorem goes_bind {α β : Type} {bs : List Bool} {g : Got α} {f : α → Nat → Got β} {n d : Nat} (h1 : Goes bs g n d) (h2 : ∀ v m, n ≤ m → m ≤ bs.length → Goes bs (f v m) m 0) : Goes bs (g.bind f) n d := ⟨fun w m h => by
  obtain ⟨v, k, hg, hf⟩ := Got.bind_inv h
  have e1 := h1.le v k hg
  have e2 := (h2 v k (by omega) e1.2).le w m hf
  omega⟩
theorem goes_ok {α : Type} {bs : List Bool} {v : α} {n : Nat} (h : n ≤ bs.length) : Goes bs (.ok v n) n 0 := ⟨fun v m e => by cases e; omega⟩
theorem goes_bad {α : Type} {bs : List Bool} {e : Int} {n d : Nat} : Goes bs (.bad e : Got α) n d := ⟨fun v m e => by cases e⟩
theorem goes_ran {α : Type} {bs : List Bool} {n d : Nat} : Goes bs (.ran : Got α) n d := ⟨fun v m e => by cases e⟩
theorem goes_ite {α : Type} {bs : List Bool} {c : Prop} [Decidable c] {a b : Got α} {n d : Nat} (h1 : c → Goes bs a n d) (h2 : ¬ c → Goes bs b n d) : Goes bs (if c then a else b) n d := by
  split
  · next h => exact h1 h
  · next h => exact h2 h
theorem decN_pos (l : List Int) (f : Nat) : ∀ n c bs, (decN l f n c bs).2.1 = 0 → 1 ≤ (decN l f n c bs).2.2 := by
  cases f with
  | zero => intro n c bs h; simp [decN] at h
  | succ f =>
    intro n c bs
    cases bs with
    | nil => intro h; simp [decN] at h
    | cons b t =>
      rw [decN]
      split
      · intro _; simp
      · intro _; simp
theorem goes_sym (bs : List Bool) (L : List Int) (n : Nat) (hn : n ≤ bs.length) : Goes bs (symG bs L n) n 1 := ⟨fun v m h => by
  unfold symG at h
  split at h
  · next h0 =>
    cases h
    have h1 := decN_pos L 15 0 0 _ h0
    have h2 := decN_used (l := L) 15 0 0 (bs.drop n)
    rw [List.length_drop] at h2
    unfold decF
    omega
  · split at h <;> cases h⟩
theorem goes_stored (bs : List Bool) (most : Int) (out : List Int) (n : Nat) : Goes bs (storedG bs most out n) n 0 := by
  have h : Goes bs (storedG bs most out n) (8 * nbytes n) 0 := by
    refine (goes_bind (goes_take bs 16 _) fun a n1 _ _ => (goes_bind (goes_take bs 16 n1) fun b n2 _ _ => ?_).zero).zero
    refine goes_ite (fun _ => goes_ite (fun h => goes_ite (fun _ => goes_bad) fun _ => ?_) fun _ => goes_ran) fun _ => goes_bad
    exact ⟨fun v m e => by cases e; omega⟩
  exact ⟨fun v m e => by have := h.le v m e; unfold nbytes at this; omega⟩
theorem goes_lens (bs : List Bool) : ∀ k xs n, n ≤ bs.length → Goes bs (lensG bs k xs n) n 0 := by
  intro k
  induction k with
  | zero => intro xs n hn; exact goes_ok hn
  | succ k ih => intro xs n hn; exact (goes_bind (goes_take bs 3 n) fun v m _ hm => ih _ m hm).zero
theorem goes_lengths (bs : List Bool) (T : List Int) (N : Nat) : ∀ d l n, N - l.length ≤ d → n ≤ bs.length → Goes bs (lengthsG bs T N l n) n 0 := by
  intro d
  induction d with
  | zero => intro l n hd hn; rw [lengthsG, dif_pos (by omega)]; exact goes_ok hn
  | succ d ih =>
    intro l n hd hn
    rw [lengthsG]
    split
    · exact goes_ok hn
    · next hN =>
      refine (goes_bind (goes_sym bs T n hn) fun c n1 _ h1 => ?_).zero
      refine goes_ite (fun _ => ih _ _ (by simp; omega) h1) fun _ => goes_ite (fun _ => goes_ite (fun _ => goes_bad) fun _ => ?_) fun _ => goes_ite (fun _ => ?_) fun _ => ?_
      all_goals exact (goes_bind (goes_take bs _ n1) fun v m _ hm => goes_ite (fun _ => goes_bad) fun _ => ih _ m (by simp; omega) hm).zero
theorem goes_codes (bs : List Bool) (n : Nat) : Goes bs (codesG bs n) n 0 := by
  refine (goes_bind (goes_take bs 5 n) fun a n1 _ _ => (goes_bind (goes_take bs 5 n1) fun b n2 _ _ => (goes_bind (goes_take bs 4 n2) fun c n3 _ h3 => ?_).zero).zero).zero
  refine goes_ite (fun _ => goes_bad) fun _ => goes_bind (goes_lens bs _ _ n3 h3) fun xs n4 _ h4 => goes_ite (fun _ => ?_) fun _ => goes_bad
  exact goes_bind (goes_lengths bs _ _ _ _ n4 (Nat.le_refl _) h4) fun l n5 _ h5 => goes_ite (fun _ => goes_ok h5) fun _ => goes_bad
theorem goes_tok (bs : List Bool) (most : Int) (L D out : List Int) (n : Nat) (hn : n ≤ bs.length) : Goes bs (tokG bs most L D out n) n 1 := by
  refine goes_bind (goes_sym bs L n hn) fun c n1 _ h1 => goes_ite (fun _ => goes_ok h1) fun _ => goes_ite (fun _ => goes_ite (fun _ => goes_bad) fun _ => goes_ok h1) fun _ => goes_ite (fun _ => goes_bad) fun _ => ?_
  refine (goes_bind (goes_take bs _ n1) fun v n2 _ h2 => (goes_bind (goes_sym bs D n2 h2) fun k n3 _ h3 => goes_ite (fun _ => goes_bad) fun _ => (goes_bind (goes_take bs _ n3) fun u n4 _ h4 => ?_).zero).zero).zero
  exact goes_ite (fun _ => goes_bad) fun _ => goes_ite (fun _ => goes_bad) fun _ => goes_ok h4
theorem goes_head (bs : List Bool) (most : Int) (st : Inf) : Goes bs (headG bs most st) st.n 1 := by
  refine goes_bind (goes_take bs 1 st.n) fun a n1 _ h1 => (goes_bind (goes_take bs 2 n1) fun k n2 _ h2 => ?_).zero
  refine goes_ite (fun _ => goes_bind (goes_stored bs most st.out n2) fun o n3 _ h3 => goes_ok h3) fun _ => goes_ite (fun _ => goes_ok h2) fun _ => goes_ite (fun _ => goes_bind (goes_codes bs n2) fun o n3 _ h3 => goes_ok h3) fun _ => goes_bad
theorem step_n {bs : List Bool} {most : Int} {st st' : Inf} {m : Nat} (h : stepG bs most st = .ok st' m) : st'.n = m := by
  unfold stepG at h
  cases ht : st.tab with
  | none =>
    rw [ht] at h
    simp only at h
    unfold headG at h
    obtain ⟨a, n1, _, h⟩ := Got.bind_inv h
    obtain ⟨k, n2, _, h⟩ := Got.bind_inv h
    split at h
    · obtain ⟨o, n3, _, h⟩ := Got.bind_inv h; cases h; rfl
    · split at h
      · cases h; rfl
      · split at h
        · obtain ⟨o, n3, _, h⟩ := Got.bind_inv h; cases h; rfl
        · cases h
  | some t =>
    rw [ht] at h
    simp only at h
    obtain ⟨r, n1, _, h⟩ := Got.bind_inv h
    cases r with
    | none => cases h; rfl
    | some o => cases h; rfl
/-- Each step takes a bit. -/
theorem step_goes {bs : List Bool} {most : Int} {st st' : Inf} {m : Nat} (hn : st.n ≤ bs.length) (h : stepG bs most st = .ok st' m) : st.n < st'.n ∧ st'.n ≤ bs.length := by
  have e := step_n h
  unfold stepG at h
  cases ht : st.tab with
  | none =>
    rw [ht] at h
    have := (goes_head bs most st).le _ _ h
    omega
  | some t =>
    rw [ht] at h
    have hg : Goes bs ((tokG bs most t.1 t.2 st.out st.n).bind fun r n1 => match r with
      | none => .ok (⟨n1, st.out, none, st.last⟩ : Inf) n1
      | some o => .ok ⟨n1, o, some t, st.last⟩ n1) st.n 1 := goes_bind (goes_tok bs most t.1 t.2 st.out st.n hn) fun r n1 _ h1 => by
        cases r with
        | none => exact goes_ok h1
        | some o => exact goes_ok h1
    have := hg.le _ _ h
    omega
def inflF (bs : List Bool) (most : Int) : Fin' := runG bs most (bs.length + 1) Inf.init
/-! ### many steps -/
inductive Steps (bs : List Bool) (most : Int) : Inf → Inf → Prop where
  | refl (st : Inf) : Steps bs most st st
  | step {a b c : Inf} {m : Nat} : a.done = false → stepG bs most a = .ok b m → Steps bs most b c → Steps bs most a c
theorem Steps.trans {bs : List Bool} {most : Int} {a b c : Inf} (h1 : Steps bs most a b) (h2 : Steps bs most b c) : Steps bs most a c := by
  induction h1 with
  | refl => exact h2
  | step hd hs _ ih => exact .step hd hs (ih h2)
end Go.Proofs.Ytljejkdkjnbmhaa
/- What an int, a byte, a string are to the program. -/
namespace Go.Proofs.Ytljejkdkjnbmhaa
open Go.RowKit

theorem intInfo : (Try.prog.info? 3).map (fun i => (i.zero, i.size, i.bytes)) = some (some (.int .i64 0), 1, 8) := by kernel_rfl
theorem u8Info : (Try.prog.info? 5).map (fun i => (i.zero, i.size, i.bytes)) = some (some (.int .u8 0), 1, 1) := by kernel_rfl
end Go.Proofs.Ytljejkdkjnbmhaa
/- Bits: the writer's state; bit. (Picked out of others by tools/pick.py, as are all XBw, XBr.) -/
namespace Go.Proofs.Ytljejkdkjnbmhaa
open Go.RowKit

def u8s (xs : List Int) : List Value := xs.map (.int .u8)
/-- A writer of these bits, behind the pointer ⟨g, 0⟩. -/
def Wtr (g : Nat) (bs : List Bool) : Piece := ex fun v => star (blk g (.cells #[v, .int .i64 bs.length] 50)) (slc 5 1 v (nbytes bs.length) (u8s (bytesOf bs)))
theorem Own.wtr {w0 w : World} {ps : List Piece} {g : Nat} {bs : List Bool} (H : Own w0 w (Wtr g bs :: ps)) :
    ∃ a c, nbytes bs.length ≤ c ∧ c ≤ 9223372036854775807 ∧ Own w0 w (blk g (.cells #[.slice a (nbytes bs.length) c, .int .i64 bs.length] 50) :: slc 5 1 (.slice a (nbytes bs.length) c) (nbytes bs.length) (u8s (bytesOf bs)) :: ps) := by
  obtain ⟨v, H⟩ := H.ex
  replace H := H.star
  obtain ⟨a, c, rfl, h1, h2⟩ := (H.front 1 rfl).rd.shape
  exact ⟨a, c, h1, h2, H⟩
theorem Own.unwtr {w0 w : World} {ps : List Piece} {g : Nat} {bs : List Bool} {v : Value} {n m : Nat} {xs : List Value} (H : Own w0 w (blk g (.cells #[v, .int .i64 n] 50) :: slc 5 1 v m xs :: ps)) (hn : n = bs.length) (hm : m = nbytes bs.length) (hx : xs = u8s (bytesOf bs)) : Own w0 w (Wtr g bs :: ps) := by
  subst hn hm hx
  exact H.unstar.unex v
set_option maxHeartbeats 400000 in
theorem bit_any {w0 w : World} {ps : List Piece} {g : Nat} {bs : List Bool} (b : Bool) (H : Own w0 w (Wtr g bs :: ps)) (hl : bs.length ≤ 35184372088832) :
    Calls Try.prog 51 #[.pointer (some ⟨g, 0, none⟩), .int .i64 (bi b)] w (Ret fun _ w' => Own w0 w' (Wtr g (bs ++ [b]) :: ps)) := by
  have hb := bi_bd b
  obtain ⟨c, hcc⟩ : ∃ c, Hid (bi b = c) := ⟨_, rfl⟩
  rw [hcc.out] at hb ⊢
  obtain ⟨hb0, hb1⟩ := hb
  obtain ⟨m, hm⟩ : ∃ m, Hid (bs.length = m) := ⟨_, rfl⟩
  have hlm := hl
  rw [hm.out] at hlm
  obtain ⟨a, cp, hc1, hc2, H⟩ := H.wtr
  rw [hm.out] at H hc1
  have c0 := H.cells
  go_enter Try.func51, Try.ntmps51
  obtain ⟨r, hr⟩ : ∃ r, Hid (r = m % 8) := ⟨_, Lib.hid rfl⟩
  obtain ⟨q, hq⟩ : ∃ q, Hid (q = m / 8) := ⟨_, Lib.hid rfl⟩
  have hrt : (m : Int).tmod 8 = (r : Int) := by have := hr.out; rw [Int.tmod_eq_emod_of_nonneg (by omega)]; omega
  have hqt : (m : Int).tdiv 8 = (q : Int) := by have := hq.out; rw [Int.tdiv_eq_ediv_of_nonneg (by omega)]; omega
  have hrt' : (m : Int) % 8 = (r : Int) := by have := hr.out; omega
  have hqt' : (m : Int) / 8 = (q : Int) := by have := hq.out; omega
  have hr8 : r < 8 := by have := hr.out; omega
  have hsn := Lib.hid (bytesOf_snoc bs b)
  go_upto_if 9 with (fail)
  go_cut [] (fun wx => ∃ a c N L, N = nbytes (m + 1) ∧ N ≤ c ∧ c ≤ 9223372036854775807 ∧ Hid (L = if bs.length % 8 = 0 then bytesOf bs ++ [0] else bytesOf bs) ∧ Own w0 wx (blk g (.cells #[.slice a N c, .int .i64 m] 50) :: slc 5 1 (.slice a N c) N (u8s L) :: ps))
  case first =>
    by_cases h0 : r = 0
    · subst h0
      go_wp2_with (first
        | (at_builtin; refine wpList_append_one rfl _ _ rfl Try.underlying37 u8Info rfl (by decide) rfl H.swap rfl rfl rfl (by simp [Value.oneCell']) (by unfold nbytes; omega) (by unfold nbytes; omega) ?_; clear H c0; intro v' w' H; replace H := H.swap)
        | (obtain ⟨a', c', rfl, h1', h2'⟩ := (H.front 1 rfl).rd.shape; refine wpList_store_slice rfl _ _ rfl rfl H rfl (by kernel_rfl) (by simp) ?_; clear H; intro w2 H))
      go_meet
      exact ⟨a', c', nbytes m + 1, bytesOf bs ++ [0], by have := hr.out; unfold nbytes; omega, h1', h2', Lib.hid (by rw [if_pos (by have := hr.out; rw [hm.out]; omega)]), by simpa [u8s] using H⟩
    · have h0' : ((r : Int) == 0) = false := by simpa using h0
      go_wp2
      go_meet
      exact ⟨a, cp, nbytes m, bytesOf bs, by have := hr.out; unfold nbytes; omega, hc1, hc2, Lib.hid (by rw [if_neg (by have := hr.out; rw [hm.out]; omega)]), H⟩
  case rest =>
    clear H c0
    obtain ⟨a, cp, N, L, hN, hc1, hc2, hL, H⟩ := hcut
    obtain ⟨k1, k2, k3⟩ := hsn.out L hL.out
    rw [hm.out] at k1 k2 k3
    rw [← hq.out] at k2 k3
    rw [← hr.out] at k3
    have hqN : q < N := by have := hq.out; unfold nbytes at hN; omega
    have hqN' : (q : Int) < (N : Int) := by omega
    replace hN := Lib.hid hN
    have hwq : IntKind.i64.wrap (q : Int) = q := IntWalk.i64_in _ ⟨by omega, by omega⟩
    have hwr : IntKind.i64.wrap (r : Int) = r := IntWalk.i64_in _ ⟨by omega, by omega⟩
    have hx0 := (byteAt_bd bs q).1
    have hx1 := byteAt_bd' bs
    rw [hm.out, ← hq.out, ← hr.out] at hx1
    obtain ⟨x, hx⟩ : ∃ x, Hid (byteAt bs q = x) := ⟨_, rfl⟩
    rw [hx.out] at hx0 hx1 k2 k3
    have hlen : 0 < (u8s L).length := by have := hN.out; simp [u8s]; omega
    obtain ⟨g2, c', e, _, _, _, _, _, _⟩ := (H.front 1 rfl).at hlen
    cases e
    have hu : Hid ((u8s L)[q]? = some (.int .u8 x)) := Lib.hid (by simp [u8s, k2])
    have hor := or8 hr8 hx0 hx1 hb0 hb1
    obtain ⟨y, hy⟩ : ∃ y, Hid (x + 2 ^ r * c = y) := ⟨_, rfl⟩
    rw [hy.out] at hor
    go_upto_region 2 with (fail)
    refine wp_region_calm (fun w1 => Own w0 w1 (blk g (.cells #[.slice (some ⟨g2, 0, none⟩) N cp, .int .i64 m] 50) :: slc 5 1 (.slice (some ⟨g2, 0, none⟩) N cp) N (u8s L) :: ps)) 20 (by kernel_rfl) (by kernel_rfl) H.drew ?_
    simp only [List.take_succ_cons, List.take_zero, List.drop_succ_cons, List.drop_zero]
    repeat
      refine calm_value (v := ?_) (by decide) rfl (fun σ w1 hS => ?_) ?_; rotate_left
      · have c0 := hS.cells
        obtain ⟨_, _, e, _, _, _, _, c1, _⟩ := (hS.front 1 rfl).at hlen
        cases e
        replace c1 := c1 q _ hu.out
        first | (go_simp; rfl) | rfl
      simp only [Act.put, List.setIfInBounds_toArray, List.set_cons_zero, List.set_cons_succ]
    refine calm_nil ?_
    intro wd HD
    clear H
    go_wp2_with (first
      | (refine wpList_store_slc rfl _ _ rfl rfl HD.swap (.int .u8 y) rfl (by kernel_rfl) hqN rfl ?_; clear HD; intro w2 HD; replace HD := HD.swap; have c0 := HD.cells)
      | (refine wpList_store_int rfl _ _ rfl rfl HD rfl (by kernel_rfl) (by simp) ?_; clear HD c0; intro w3 HD))
    go_end0
    refine ⟨_, rfl, HD.unwtr (n := m + 1) ?_ ?_ ?_⟩
    · simp [hm.out]
    · have := hN.out; simp [hm.out]; exact this
    · rw [k3, hcc.out, hy.out]; simp [u8s]
end Go.Proofs.Ytljejkdkjnbmhaa
/- Bits: bytes as bits, plainly. No program in sight. -/
namespace Go.Proofs.Ytljejkdkjnbmhaa
open Go.RowKit

def cut (n : Int) : Nat := (min (max n 0) 62).toNat
/-- The k-th of what Code puts. -/
theorem codeBits_take (v : Int) (m k : Nat) (hk : k < m) : (bitsOf v m).reverse.take (k + 1) = (bitsOf v m).reverse.take k ++ [bitOf v (m - 1 - k)] := by
  rw [List.take_succ_eq_append_getElem (by simpa [bitsOf_length] using hk)]
  simp [bitsOf]
def byteNums (s : ByteArray) : List Int := s.data.toList.map fun b => (b.toNat : Int)
theorem byteCells_nums (s : ByteArray) : byteCells s = u8s (byteNums s) := by simp [byteCells, u8s, byteNums]
theorem byteNums_length (s : ByteArray) : (byteNums s).length = s.size := by simp [byteNums]
theorem byteNums_bd (s : ByteArray) : ∀ x ∈ byteNums s, 0 ≤ x ∧ x < 256 := by
  intro x hx
  obtain ⟨b, _, rfl⟩ := List.mem_map.1 hx
  have := b.toNat_lt
  omega
/-- Bits of bytes. -/
def bitsOfNums (ns : List Int) : List Bool := ns.flatMap (bitsOf · 8)
theorem bitsOfNums_length (ns : List Int) : (bitsOfNums ns).length = 8 * ns.length := by
  induction ns with
  | nil => rfl
  | cons n ns ih =>
    simp only [bitsOfNums, List.flatMap_cons, List.length_append, bitsOf_length, List.length_cons] at ih ⊢
    omega
theorem byteAt_append (bs cs : List Bool) (h : bs.length % 8 = 0) (k : Nat) (hk : k < bs.length / 8) : byteAt (bs ++ cs) k = byteAt bs k := by
  unfold byteAt
  rw [List.drop_append_of_le_length (by omega), List.take_append_of_le_length (by simp; omega)]
theorem byteAt_append' (bs cs : List Bool) (h : bs.length % 8 = 0) (k : Nat) : byteAt (bs ++ cs) (bs.length / 8 + k) = byteAt cs k := by
  unfold byteAt
  rw [List.drop_append, List.drop_eq_nil_of_le (by omega), List.nil_append]
  congr 3
  omega
/-- A whole byte in front. -/
theorem bytesOf_byte (b8 cs : List Bool) (h : b8.length = 8) : bytesOf (b8 ++ cs) = valOf b8 :: bytesOf cs := by
  unfold bytesOf
  rw [show nbytes (b8 ++ cs).length = nbytes cs.length + 1 by simp [nbytes]; omega, List.range_succ_eq_map, List.map_cons, List.map_map]
  congr 1
  · unfold byteAt
    simp [List.take_append_of_le_length (show 8 ≤ b8.length by omega), List.take_of_length_le (show b8.length ≤ 8 by omega)]
  · refine List.map_congr_left fun k _ => ?_
    have := byteAt_append' b8 cs (by omega) k
    rw [show b8.length / 8 = 1 by omega] at this
    show byteAt _ (k + 1) = _
    rw [Nat.add_comm]
    exact this
theorem bytesOf_nums (ns : List Int) (hb : ∀ x ∈ ns, 0 ≤ x ∧ x < 256) : bytesOf (bitsOfNums ns) = ns := by
  induction ns with
  | nil => rfl
  | cons n ns ih =>
    show bytesOf (bitsOf n 8 ++ bitsOfNums ns) = _
    rw [bytesOf_byte _ _ (bitsOf_length n 8), ih fun x hx => hb x (List.mem_cons_of_mem _ hx), valOf_bitsOf]
    have := hb n List.mem_cons_self
    congr 1
    omega
theorem bytesOf_append (bs cs : List Bool) (h : bs.length % 8 = 0) : bytesOf (bs ++ cs) = bytesOf bs ++ bytesOf cs := by
  unfold bytesOf
  rw [show nbytes (bs ++ cs).length = bs.length / 8 + nbytes cs.length by simp [nbytes]; omega, show nbytes bs.length = bs.length / 8 by unfold nbytes; omega, List.range_add, List.map_append, List.map_map]
  congr 1
  · exact List.map_congr_left fun k hk => byteAt_append bs cs h k (List.mem_range.1 hk)
  · exact List.map_congr_left fun k _ => byteAt_append' bs cs h k
/-- What Text puts. -/
def textBits (s : ByteArray) : List Bool := bitsOfNums (byteNums s)
theorem textBits_length (s : ByteArray) : (textBits s).length = 8 * s.size := by rw [textBits, bitsOfNums_length, byteNums_length]
/-- The text that bits are. -/
def textOf (bs : List Bool) : ByteArray := strOfNums (bytesOf bs)
theorem bitsOfNums_get (ns : List Int) : ∀ (q r : Nat), r < 8 → (bitsOfNums ns)[8 * q + r]? = (ns[q]?).map (bitOf · r) := by
  induction ns with
  | nil => intro q r _; simp [bitsOfNums]
  | cons n ns ih =>
    intro q r hr
    show (bitsOf n 8 ++ bitsOfNums ns)[8 * q + r]? = _
    cases q with
    | zero =>
      rw [List.getElem?_append_left (by rw [bitsOf_length]; omega)]
      simp [bitsOf, hr]
    | succ q =>
      rw [List.getElem?_append_right (by rw [bitsOf_length]; omega), bitsOf_length, show 8 * (q + 1) + r - 8 = 8 * q + r by omega, ih q r hr]
      rfl
theorem textBits_get (s : ByteArray) {q r : Nat} (hq : q < s.size) (hr : r < 8) : (textBits s)[8 * q + r]? = some (bitOf ((s[q].toNat : Nat) : Int) r) := by
  have h : (byteNums s)[q]? = some ((s[q].toNat : Nat) : Int) := by
    have : q < s.data.size := hq
    simp only [byteNums, List.getElem?_map, Array.getElem?_toList, Array.getElem?_eq_getElem this]
    rfl
  rw [textBits, bitsOfNums_get _ q r hr, h]
  rfl
theorem byteNums_strOfNums (ns : List Int) (h : ∀ x ∈ ns, 0 ≤ x ∧ x < 256) : byteNums (strOfNums ns) = ns := by
  unfold byteNums strOfNums
  simp only [List.map_map]
  conv => rhs; rw [← List.map_id ns]
  refine List.map_congr_left fun x hx => ?_
  have := h x hx
  simp only [Function.comp, id]
  rw [UInt8.toNat_ofNat']
  omega
theorem aligned_get (bs : List Bool) (i : Nat) (hi : i < 8 * nbytes bs.length) : (aligned bs)[i]? = some (bs.getD i false) := by
  unfold aligned
  by_cases h : i < bs.length
  · rw [List.getElem?_append_left h, List.getElem?_eq_getElem h]
    simp [List.getD, h]
  · rw [List.getElem?_append_right (by omega), List.getElem?_replicate_of_lt (by unfold padN; unfold nbytes at hi; omega)]
    simp [List.getD, List.getElem?_eq_none (show bs.length ≤ i by omega)]
theorem bitsOfNums_bytesOf (bs : List Bool) : bitsOfNums (bytesOf bs) = aligned bs := by
  apply List.ext_getElem?
  intro i
  by_cases hi : i < 8 * nbytes bs.length
  · rw [aligned_get bs i hi]
    obtain ⟨q, hq⟩ : ∃ q, q = i / 8 := ⟨_, rfl⟩
    obtain ⟨r, hr⟩ : ∃ r, r = i % 8 := ⟨_, rfl⟩
    have e : i = 8 * q + r := by omega
    have hr8 : r < 8 := by omega
    rw [e, bitsOfNums_get _ q r hr8, bytesOf_get bs (by omega)]
    simp only [Option.map_some, Option.some.injEq]
    rw [byteAt, bitOf_valOf]
    simp only [List.getD, List.getElem?_take, hr8, if_true, List.getElem?_drop]
  · rw [List.getElem?_eq_none (by rw [bitsOfNums_length, bytesOf_length]; omega), List.getElem?_eq_none (by rw [aligned_length]; omega)]
theorem textBits_textOf (bs : List Bool) : textBits (textOf bs) = aligned bs := by
  unfold textBits textOf
  rw [byteNums_strOfNums _ (bytesOf_bd bs), bitsOfNums_bytesOf]
theorem textOf_size (bs : List Bool) : (textOf bs).size = nbytes bs.length := by
  have := textBits_length (textOf bs)
  rw [textBits_textOf, aligned_length] at this
  omega
end Go.Proofs.Ytljejkdkjnbmhaa
/- bits, a reader: what is taken, plainly. No program in sight. -/
namespace Go.Proofs.Ytljejkdkjnbmhaa
open Go.RowKit

/-- What a taking answers, and how many bits are taken then. -/
def tkOk (s : ByteArray) (n : Nat) (m : Int) : Prop := 0 ≤ m ∧ m ≤ 62 ∧ m ≤ 8 * (s.size : Int) - n
instance (s : ByteArray) (n : Nat) (m : Int) : Decidable (tkOk s n m) := by unfold tkOk; infer_instance
def tkV (s : ByteArray) (n : Nat) (m : Int) : Int := if tkOk s n m then valOf (((textBits s).drop n).take m.toNat) else 0
def tkN (s : ByteArray) (n : Nat) (m : Int) : Nat := if tkOk s n m then n + m.toNat else n
theorem tkN_le {s : ByteArray} {n : Nat} {m : Int} (h : n ≤ 8 * s.size) : tkN s n m ≤ 8 * s.size := by
  unfold tkN
  split
  · next h2 => unfold tkOk at h2; omega
  · exact h
def txOk (s : ByteArray) (n : Nat) (m : Int) : Prop := 0 ≤ m ∧ m ≤ (s.size : Int) - nbytes n
instance (s : ByteArray) (n : Nat) (m : Int) : Decidable (txOk s n m) := by unfold txOk; infer_instance
def txV (s : ByteArray) (n : Nat) (m : Int) : ByteArray := if txOk s n m then s.extract (nbytes n) (nbytes n + m.toNat) else ByteArray.empty
def txN (s : ByteArray) (n : Nat) (m : Int) : Nat := if txOk s n m then 8 * (nbytes n + m.toNat) else n
end Go.Proofs.Ytljejkdkjnbmhaa
/- lz: tokens that are read. No program in sight. -/
namespace Go.Proofs.Ytljejkdkjnbmhaa
open Go.RowKit

theorem tok_cells {w : World} {b o c i n : Nat} {l : List Tok} {t : Tok} (h : Rd w 3 (.slice (some ⟨b, o, none⟩) n c) n (rows tcell l)) (ht : l[i]? = some t) :
    w.cell? ⟨b, o + i * 3, none⟩ = some (.int .i64 t.len) ∧ w.cell? ⟨b, o + i * 3 + 1, none⟩ = some (.int .i64 t.dist) ∧ w.cell? ⟨b, o + i * 3 + 2, none⟩ = some (.int .i64 t.lit) := by
  have h0 := h.cell ((rows_get tcell tcell_length ht 0 (by omega)).trans rfl)
  have h1 := h.cell ((rows_get tcell tcell_length ht 1 (by omega)).trans rfl)
  have h2 := h.cell ((rows_get tcell tcell_length ht 2 (by omega)).trans rfl)
  exact ⟨h0, h1, h2⟩
def bcells (l : List Int) : List Value := l.map (.int .u8)
theorem bcells_length (l : List Int) : (bcells l).length = l.length := by simp [bcells]
theorem bcells_get {l : List Int} {k : Nat} {s : Int} (h : l[k]? = some s) : (bcells l)[k]? = some (.int .u8 s) := by simp [bcells, h]
theorem bcells_snoc (l : List Int) (x : Int) : bcells l ++ [.int .u8 x] = bcells (l ++ [x]) := by simp [bcells]
end Go.Proofs.Ytljejkdkjnbmhaa
/- flate: bounds of symbols. No program in sight. -/
namespace Go.Proofs.Ytljejkdkjnbmhaa
open Go.RowKit

theorem lenSym_bd_all : ∀ x : Fin 256, 257 ≤ (lenSym (x.1 + 3)).1 ∧ (lenSym (x.1 + 3)).1 ≤ 285 ∧ (lenSym (x.1 + 3)).2.1 ≤ 5 ∧ (lenSym (x.1 + 3)).2.2 < 2 ^ (lenSym (x.1 + 3)).2.1 := by decide +kernel
theorem lenSym_bd {n : Nat} (h : 3 ≤ n ∧ n ≤ 258) : 257 ≤ (lenSym n).1 ∧ (lenSym n).1 ≤ 285 ∧ (lenSym n).2.1 ≤ 5 ∧ (lenSym n).2.2 < 2 ^ (lenSym n).2.1 := by
  have := lenSym_bd_all ⟨n - 3, by omega⟩
  simpa [show n - 3 + 3 = n by omega] using this
def distBd (x : Nat) : Bool := decide ((distSym (x + 1)).1 ≤ 29 ∧ (distSym (x + 1)).2.1 ≤ 13 ∧ (distSym (x + 1)).2.2 < 2 ^ (distSym (x + 1)).2.1)
theorem distBd_chk : ∀ k : Fin 16, chk distBd 11 (2048 * k.1) = true := by decide +kernel
theorem distSym_bd {n : Nat} (h : 1 ≤ n ∧ n ≤ 32768) : (distSym n).1 ≤ 29 ∧ (distSym n).2.1 ≤ 13 ∧ (distSym n).2.2 < 2 ^ (distSym n).2.1 := by
  have h1 := distBd_chk ⟨(n - 1) / 2048, by omega⟩
  have := chk_all 11 _ h1 ((n - 1) % 2048) (by omega)
  rw [show 2048 * ((n - 1) / 2048) + (n - 1) % 2048 = n - 1 by omega] at this
  unfold distBd at this
  rw [show n - 1 + 1 = n by omega] at this
  exact of_decide_eq_true this
end Go.Proofs.Ytljejkdkjnbmhaa
/- flate: a block's bits, plainly. No program in sight. -/
namespace Go.Proofs.Ytljejkdkjnbmhaa

/-- A token's bits, by codes of lengths. -/
def tbits (L D : List Int) (t : Tok) : List Bool :=
  if t.len = 0 then cbits L t.lit.toNat
  else cbits L (lenSym t.len.toNat).1 ++ (bitsOf (lenSym t.len.toNat).2.2 (lenSym t.len.toNat).2.1 ++ (cbits D (distSym t.dist.toNat).1 ++ bitsOf (distSym t.dist.toNat).2.2 (distSym t.dist.toNat).2.1))
def toksB (L D : List Int) (l : List Tok) : List Bool := l.flatMap (tbits L D)
def bodyB (L D : List Int) (l : List Tok) : List Bool := toksB L D l ++ cbits L 256
/-- The fixed codes' lengths. -/
def fixL : List Int := List.replicate 144 8 ++ List.replicate 112 9 ++ List.replicate 24 7 ++ List.replicate 8 8
def fixD : List Int := List.replicate 32 5
def headB (last : Bool) (kind : Int) : List Bool := last :: bitsOf kind 2

/-- How often each symbol comes. -/
def litS (t : Tok) : Int := if t.len = 0 then t.lit else ((lenSym t.len.toNat).1 : Int)
def distS (t : Tok) : Int := ((distSym t.dist.toNat).1 : Int)
def litFq (l : List Tok) : List Int := bumpF ((zerosF 286).set 256 1) (l.map litS)
def distFq (l : List Tok) : List Int := bumpF (zerosF 30) ((l.filter fun t => decide (t.len ≠ 0)).map distS)
/-- Without the zeros behind the last one, at least so many. -/
def trimK (l : List Int) (least : Nat) : Nat → Nat
  | 0 => 0
  | k + 1 => if least < k + 1 ∧ l.getD k 0 = 0 then trimK l least k else k + 1
def trimF (l : List Int) (least : Nat) : List Int := l.take (trimK l least l.length)
/-- Lengths, as runs: symbol, how many bits more, these. -/
structure Run where
  sym : Int
  n : Int
  v : Int
def sameK (x : Int) : List Int → Nat
  | [] => 0
  | y :: t => if y = x then sameK x t + 1 else 0
def runsN : Nat → List Int → List Run
  | 0, _ => []
  | _ + 1, [] => []
  | f + 1, x :: t =>
    if x = 0 ∧ 10 < sameK x t + 1 then ⟨18, 7, (min (sameK x t + 1) 138 : Nat) - 11⟩ :: runsN f ((x :: t).drop (min (sameK x t + 1) 138))
    else if x = 0 ∧ 2 < sameK x t + 1 then ⟨17, 3, (sameK x t + 1 : Nat) - 3⟩ :: runsN f ((x :: t).drop (sameK x t + 1))
    else if 3 < sameK x t + 1 then ⟨x, 0, 0⟩ :: ⟨16, 2, (min (sameK x t + 1) 7 : Nat) - 4⟩ :: runsN f ((x :: t).drop (min (sameK x t + 1) 7))
    else ⟨x, 0, 0⟩ :: runsN f t
def runsF (l : List Int) : List Run := runsN l.length l
/-- The order in which the lengths of lengths' codes stand. -/
def ordF : List Nat := [16, 17, 18, 0, 8, 7, 9, 6, 10, 5, 11, 4, 12, 3, 13, 2, 14, 1, 15]
def richL (l : List Tok) : List Int := trimF (resF (litFq l) 15) 257
def richD (l : List Tok) : List Int := trimF (resF (distFq l) 15) 1
def richR (l : List Tok) : List Run := runsF (richL l ++ richD l)
def runFq (rs : List Run) : List Int := bumpF (zerosF 19) (rs.map Run.sym)
def runL (rs : List Run) : List Int := resF (runFq rs) 7
def sortedF (ls : List Int) : List Int := trimF (ordF.map fun s => ls.getD s 0) 4
def runB (ls : List Int) (r : Run) : List Bool := cbits ls r.sym.toNat ++ bitsOf r.v r.n.toNat
def runsB (ls : List Int) (rs : List Run) : List Bool := rs.flatMap (runB ls)
def lensB (l : List Int) : List Bool := l.flatMap fun n => bitsOf n 3
def sizesB (a b c : Nat) : List Bool := bitsOf ((a : Int) - 257) 5 ++ (bitsOf ((b : Int) - 1) 5 ++ bitsOf ((c : Int) - 4) 4)
/-- What stands behind a block's beginning. -/
def richB (l : List Tok) : List Bool :=
  sizesB (richL l).length (richD l).length (sortedF (runL (richR l))).length ++ (lensB (sortedF (runL (richR l))) ++ (runsB (runL (richR l)) (richR l) ++ bodyB (richL l) (richD l) l))
def blockB (l : List Tok) (kind : Int) (last : Bool) : List Bool := if kind = 1 then headB last 1 ++ bodyB fixL fixD l else headB last 2 ++ richB l
/-- A text as it is. -/
def storeB : Nat → ByteArray → List Bool → List Bool
  | 0, _, bs => bs
  | f + 1, t, bs => if t.size ≤ 65535
      then aligned (bs ++ headB true 0) ++ (bitsOf (t.size : Int) 16 ++ (bitsOf (65535 - (t.size : Int)) 16 ++ textBits t))
      else storeB f (t.extract 65535 t.size) (aligned (bs ++ headB false 0) ++ (bitsOf 65535 16 ++ (bitsOf 0 16 ++ textBits (t.extract 0 65535))))
def storeF (s : ByteArray) : List Bool := storeB (s.size + 1) s []

/-- What a token of a text may be. -/
def TokOk (t : Tok) : Prop := (t.len = 0 ∧ 0 ≤ t.lit ∧ t.lit < 256) ∨ (3 ≤ t.len ∧ t.len ≤ 258 ∧ 1 ≤ t.dist ∧ t.dist ≤ 32768)
theorem may_ok {t : Tok} {n : Nat} (h : may t n = true) : TokOk t := by
  unfold may at h
  unfold TokOk
  split at h
  · next h0 => have := of_decide_eq_true h; omega
  · have := of_decide_eq_true h; omega

/-! ### symbols -/

/-! ### how long -/
theorem flat_le {α : Type} {f : α → List Bool} {b : Nat} : ∀ (l : List α), (∀ x ∈ l, (f x).length ≤ b) → (l.flatMap f).length ≤ b * l.length
  | [], _ => by simp
  | x :: t, h => by
    have h1 := flat_le t fun y hy => h y (by simp [hy])
    have h2 := h x (by simp)
    rw [List.flatMap_cons, List.length_append, List.length_cons, Nat.mul_succ]
    omega
theorem getD_le {l : List Int} (hl : ∀ x ∈ l, 0 ≤ x ∧ x ≤ 15) (s : Nat) : 0 ≤ l.getD s 0 ∧ l.getD s 0 ≤ 15 := by
  by_cases h : s < l.length
  · exact hl _ (mem_getD2 h)
  · rw [List.getD_eq_getElem?_getD, List.getElem?_eq_none (by omega)]; simp
theorem cbits_le {l : List Int} (hl : ∀ x ∈ l, 0 ≤ x ∧ x ≤ 15) (s : Nat) : (cbits l s).length ≤ 15 := by
  rw [cbits_length]; have := getD_le hl s; omega
theorem tbits_le {L D : List Int} (hL : ∀ x ∈ L, 0 ≤ x ∧ x ≤ 15) (hD : ∀ x ∈ D, 0 ≤ x ∧ x ≤ 15) {t : Tok} (ht : TokOk t) : (tbits L D t).length ≤ 48 := by
  unfold tbits
  split
  · have := cbits_le hL t.lit.toNat; omega
  · next h =>
    have h1 := cbits_le hL (lenSym t.len.toNat).1
    have h2 := cbits_le hD (distSym t.dist.toNat).1
    have h3 : 3 ≤ t.len ∧ t.len ≤ 258 ∧ 1 ≤ t.dist ∧ t.dist ≤ 32768 := by rcases ht with h4 | h4 <;> omega
    have h4 := lenSym_bd (n := t.len.toNat) (by omega)
    have h5 := distSym_bd (n := t.dist.toNat) (by omega)
    rw [List.length_append, List.length_append, List.length_append, bitsOf_length, bitsOf_length]
    omega
theorem toksB_le {L D : List Int} (hL : ∀ x ∈ L, 0 ≤ x ∧ x ≤ 15) (hD : ∀ x ∈ D, 0 ≤ x ∧ x ≤ 15) {l : List Tok} (ht : ∀ t ∈ l, TokOk t) : (toksB L D l).length ≤ 48 * l.length :=
  flat_le l fun t h => tbits_le hL hD (ht t h)
theorem bodyB_le {L D : List Int} (hL : ∀ x ∈ L, 0 ≤ x ∧ x ≤ 15) (hD : ∀ x ∈ D, 0 ≤ x ∧ x ≤ 15) {l : List Tok} (ht : ∀ t ∈ l, TokOk t) : (bodyB L D l).length ≤ 48 * l.length + 15 := by
  have h1 := toksB_le hL hD ht
  have h2 := cbits_le hL 256
  unfold bodyB
  rw [List.length_append]
  omega
theorem fixL_ok : fixL.length = 288 ∧ cerrF fixL = 0 ∧ terrF fixL = 0 := by decide +kernel
theorem fixD_ok : fixD.length = 32 ∧ cerrF fixD = 0 ∧ terrF fixD = 0 := by decide +kernel
theorem fixL_bd : ∀ x ∈ fixL, 0 ≤ x ∧ x ≤ 15 := by decide +kernel
theorem fixD_bd : ∀ x ∈ fixD, 0 ≤ x ∧ x ≤ 15 := by decide +kernel
theorem fixL_pos : ∀ s : Fin 288, 0 < fixL.getD s.1 0 := by decide +kernel
theorem fixD_pos : ∀ s : Fin 32, 0 < fixD.getD s.1 0 := by decide +kernel
end Go.Proofs.Ytljejkdkjnbmhaa
/- inflate: what the walks know plainly. No program in sight. -/
namespace Go.Proofs.Ytljejkdkjnbmhaa
open Go.RowKit

/-- What a part of unpacking yields, said of a value, a place and a fault. -/
def GotR {α : Type} (g : Got α) (v : α) (n : Nat) (e : Int) : Prop := match g with
  | .ok v0 m => v = v0 ∧ n = m ∧ e = 0
  | .ran => e = 2
  | .bad e0 => e = e0
theorem xor_sum {a b : Nat} (ha : a ≤ 65535) (hb : b ≤ 65535) : a ^^^ b = 65535 ↔ a + b = 65535 := by
  have h1 : a ^^^ 65535 = 65535 - a := by
    have e1 : (BitVec.ofNat 16 a ^^^ BitVec.allOnes 16).toNat = 65535 - a := by
      rw [BitVec.xor_allOnes, BitVec.toNat_not, BitVec.toNat_ofNat, Nat.mod_eq_of_lt (by omega)]
    rw [BitVec.toNat_xor, BitVec.toNat_ofNat, Nat.mod_eq_of_lt (by omega)] at e1
    exact e1
  constructor
  · intro h
    have : b = a ^^^ (a ^^^ b) := by rw [← Nat.xor_assoc, Nat.xor_self, Nat.zero_xor]
    rw [h, h1] at this
    omega
  · intro h
    have : b = a ^^^ 65535 := by omega
    rw [this, ← Nat.xor_assoc, Nat.xor_self, Nat.zero_xor]
theorem xor_num {a b : Int} (ha : 0 ≤ a ∧ a < 65536) (hb : 0 ≤ b ∧ b < 65536) : ∃ c : Int, bits .xor .i64 a b = c ∧ (c = 65535 ↔ a + b = 65535) := by
  obtain ⟨a, rfl⟩ : ∃ k : Nat, a = k := ⟨a.toNat, by omega⟩
  obtain ⟨b, rfl⟩ : ∃ k : Nat, b = k := ⟨b.toNat, by omega⟩
  have h := xor_sum (a := a) (b := b) (by omega) (by omega)
  have hlt : a ^^^ b < 2 ^ 16 := Nat.xor_lt_two_pow (by omega) (by omega)
  have key : IntKind.i64.wrap ((BitVec.ofInt 64 (a : Int) ^^^ BitVec.ofInt 64 (b : Int)).toNat : Int) = ((a ^^^ b : Nat) : Int) := by
    rw [BitVec.ofInt_natCast, BitVec.ofInt_natCast, BitVec.toNat_xor, BitVec.toNat_ofNat, BitVec.toNat_ofNat, Nat.mod_eq_of_lt (by omega), Nat.mod_eq_of_lt (by omega), IntKind.wrap_i64]
    omega
  exact ⟨_, key, by omega⟩
theorem bytesAt_text {s : ByteArray} {q k : Nat} (h : q + k ≤ s.size) : bytesAt (textBits s) (8 * q) k = byteNums (s.extract q (q + k)) := by
  have e1 : ∀ (l : List Int) (j : Nat), (bitsOfNums l).drop (8 * j) = bitsOfNums (l.drop j) := by
    intro l
    induction l with
    | nil => intro j; simp [bitsOfNums]
    | cons x t ih =>
      intro j
      cases j with
      | zero => simp
      | succ j =>
        rw [List.drop_succ_cons, ← ih, bitsOfNums, List.flatMap_cons, show 8 * (j + 1) = (bitsOf x 8).length + 8 * j by rw [bitsOf_length]; omega, ← List.drop_drop, List.drop_left]
        rfl
  have e2 : ∀ (l : List Int) (j : Nat), (bitsOfNums l).take (8 * j) = bitsOfNums (l.take j) := by
    intro l
    induction l with
    | nil => intro j; simp [bitsOfNums]
    | cons x t ih =>
      intro j
      cases j with
      | zero => simp [bitsOfNums]
      | succ j =>
        rw [List.take_succ_cons, bitsOfNums, List.flatMap_cons, bitsOfNums, List.flatMap_cons, show 8 * (j + 1) = (bitsOf x 8).length + 8 * j by rw [bitsOf_length]; omega, List.take_length_add_append]
        exact congrArg _ (ih j)
  unfold bytesAt textBits
  rw [e1, e2]
  have e3 : byteNums (s.extract q (q + k)) = ((byteNums s).drop q).take k := by
    unfold byteNums
    rw [ByteArray.data_extract, Array.toList_extract, List.extract_eq_take_drop, ← List.map_drop, ← List.map_take, Nat.add_sub_cancel_left]
  rw [e3, bytesOf_nums]
  intro x hx
  exact byteNums_bd s x (List.mem_of_mem_drop (List.mem_of_mem_take hx))
theorem nbytes_8 (q : Nat) : nbytes (8 * q) = q := by unfold nbytes; omega
/-- Lengths that are a code's. -/
structure TabOk (l : List Int) : Prop where
  all : ∀ x ∈ l, 0 ≤ x ∧ x ≤ 15
  wt : sumF wtF l ≤ 2 ^ 15
  len : l.length ≤ 1000000
theorem dec_bd (l : List Int) : ∀ f n c bs, 0 ≤ (decN l f n c bs).1 ∧ ((decN l f n c bs).1 = 0 ∨ (decN l f n c bs).1 < l.length) := by
  intro f
  induction f with
  | zero => intro n c bs; simp [decN]
  | succ f ih =>
    intro n c bs
    cases bs with
    | nil => simp [decN]
    | cons b t =>
      rw [decN]
      split
      · next s h =>
        have := (symsL_at h).1
        simp only
        omega
      · exact ih _ _ _
def lenG (bs : List Bool) (c : Int) (n : Nat) : Got Int := if 285 < c then .bad 2 else (takeG bs (lenT0 c.toNat).2 n).bind fun v m => .ok ((lenT0 c.toNat).1 + v) m
def distG (bs : List Bool) (k : Int) (n : Nat) : Got Int := if 29 < k then .bad 2 else (takeG bs (distT0 k.toNat).2 n).bind fun v m => .ok ((distT0 k.toNat).1 + v) m
theorem lenT0_small (i : Nat) (h : i < 8) : lenT0 (257 + i) = (3 + i, 0) := by
  have : ∀ i : Fin 8, lenT0 (257 + i.val) = (3 + i.val, 0) := by decide
  exact this ⟨i, h⟩
theorem lenT0_mid (i : Nat) (h : i < 20) : lenT0 (265 + i) = (3 + (4 + i % 4) * 2 ^ (i / 4 + 1), i / 4 + 1) := by
  have : ∀ i : Fin 20, lenT0 (265 + i.val) = (3 + (4 + i.val % 4) * 2 ^ (i.val / 4 + 1), i.val / 4 + 1) := by decide
  exact this ⟨i, h⟩
theorem lenT0_last : lenT0 285 = (258, 0) := rfl
theorem tk_got {s : ByteArray} {n k : Nat} (hk : k ≤ 62) (hn : n ≤ 8 * s.size) : GotR (takeG (textBits s) k n) (tkV s n k) (tkN s n k) (if tkOk s n k then 0 else 2) ∧ tkN s n k ≤ 8 * s.size ∧ 0 ≤ tkV s n k := by
  refine ⟨?_, tkN_le hn, ?_⟩
  · unfold takeG
    rw [textBits_length]
    by_cases h : tkOk s n k
    · have h' := h
      unfold tkOk at h'
      rw [if_pos (by omega), if_pos h]
      unfold tkV tkN
      rw [if_pos h, if_pos h]
      exact ⟨by simp, by simp, rfl⟩
    · have h' := h
      unfold tkOk at h'
      rw [if_neg (by omega), if_neg h]
      rfl
  · unfold tkV
    split
    · exact (valOf_bd _).1
    · omega
theorem tkV_lt {s : ByteArray} {n k : Nat} (hk : k ≤ 16) : tkV s n k < 65536 := by
  unfold tkV
  split
  · have h := valOf_bd (((textBits s).drop n).take (k : Int).toNat)
    refine Int.lt_of_lt_of_le h.2 ?_
    have hl : (((textBits s).drop n).take (k : Int).toNat).length ≤ 16 := by simp; omega
    exact pow2_le hl
  · omega
/-- What is taken behind something that was told: the first fault stands. -/
def tkE (s : ByteArray) (n : Nat) (k : Int) (e : Int) : Int := if tkOk s n k then e else if e = 0 then 2 else e
theorem tk_zero {s : ByteArray} {n : Nat} {e : Int} (hn : n ≤ 8 * s.size) : tkV s n ((0 : Nat) : Int) = 0 ∧ tkN s n ((0 : Nat) : Int) = n ∧ tkE s n ((0 : Nat) : Int) e = e := by
  have h : tkOk s n ((0 : Nat) : Int) := by unfold tkOk; omega
  unfold tkV tkN tkE
  rw [if_pos h, if_pos h, if_pos h]
  simp [valOf]
theorem distT0_small (i : Nat) (h : i < 4) : distT0 i = (1 + i, 0) := by
  have : ∀ i : Fin 4, distT0 i.val = (1 + i.val, 0) := by decide
  exact this ⟨i, h⟩
theorem distT0_mid (i : Nat) (h : i < 26) : distT0 (4 + i) = (1 + (2 + i % 2) * 2 ^ (i / 2 + 1), i / 2 + 1) := by
  have : ∀ i : Fin 26, distT0 (4 + i.val) = (1 + (2 + i.val % 2) * 2 ^ (i.val / 2 + 1), i.val / 2 + 1) := by decide
  exact this ⟨i, h⟩
theorem fixTab_eq : fixTab = (fixL, fixD) := by
  unfold fixTab fixL fixD
  rfl
theorem fix_terr : terrF fixL = 0 ∧ terrF fixD = 0 := by decide +kernel
theorem fix_ok : TabOk fixL ∧ TabOk fixD := by
  refine ⟨⟨?_, by decide +kernel, by decide +kernel⟩, ⟨?_, by decide +kernel, by decide +kernel⟩⟩
  · have : fixL.all (fun x => decide (0 ≤ x ∧ x ≤ 15)) = true := by decide +kernel
    intro x hx
    simpa using List.all_eq_true.1 this x hx
  · have : fixD.all (fun x => decide (0 ≤ x ∧ x ≤ 15)) = true := by decide +kernel
    intro x hx
    simpa using List.all_eq_true.1 this x hx
/-- What is there, and what is amiss, behind a length again. -/
def agL (N : Nat) (l : List Int) (k : Nat) (x : Int) : List Int := if N < l.length + k then l else l ++ List.replicate k x
def agE (N : Nat) (l : List Int) (k : Nat) (e : Int) : Int := if N < l.length + k then (if e = 0 then 2 else e) else e
theorem nums_append (a b : List Int) : nums a ++ nums b = nums (a ++ b) := by unfold nums; rw [List.map_append]
/-- Where lengths stand: as they go on, or a fault. -/
def LSt (bs : List Bool) (G : Got (List Int)) (T : List Int) (N : Nat) (l : List Int) (n : Nat) (e : Int) : Prop := (e = 0 → lengthsG bs T N l n = G) ∧ (e ≠ 0 → ∀ v m, GotR G v m e)
theorem sym_bad {bs : List Bool} {T : List Int} {n : Nat} : ∀ e, symG bs T n = .bad e → e ≠ 0 := by
  intro e h
  unfold symG at h
  split at h
  · cases h
  · split at h
    · cases h
    · cases h; decide
theorem agL_len {N k : Nat} {l : List Int} {x : Int} (h : l.length ≤ N) : (agL N l k x).length ≤ N := by
  unfold agL
  split
  · exact h
  · rw [List.length_append, List.length_replicate]; omega
/-- What a round leaves is less. -/
def lmeas (N : Nat) (u e : Value) : Nat := if intOf e = 0 then N + 1 - sliceLen u else 0
theorem agL_less {N k : Nat} {l : List Int} {x e : Int} (hk : 1 ≤ k) (hl : l.length < N) : (if agE N l k e = 0 then N + 1 - (agL N l k x).length else 0) < N + 1 - l.length := by
  unfold agE agL
  by_cases hx : N < l.length + k
  · rw [if_pos hx, if_pos hx]
    by_cases he : e = 0
    · rw [if_pos he, if_neg (by decide)]; omega
    · rw [if_neg he, if_neg he]; omega
  · rw [if_neg hx, if_neg hx, List.length_append, List.length_replicate]
    split <;> omega
theorem tk_small {s : ByteArray} {n k V : Nat} (hk : k ≤ 7) (h : tkV s n k = V) : V < 128 := by
  unfold tkV at h
  split at h
  · have hb := valOf_bd (((textBits s).drop n).take (k : Int).toNat)
    have hl : (((textBits s).drop n).take (k : Int).toNat).length ≤ 7 := by simp; omega
    have hp := pow2_le hl
    have : (2 : Int) ^ 7 = 128 := rfl
    omega
  · omega
theorem tab_ok {l : List Int} (h : terrF l = 0) : TabOk l := by
  obtain ⟨h1, h2, h3⟩ := table_ok h
  exact ⟨h2, h3, by omega⟩
def tmeas (m : Nat) (u e : Value) : Nat := if intOf e = 0 then m + 1 - sliceLen u else 0
def imeas (z : Nat) (a e n : Value) : Nat := if intOf a = 0 ∧ intOf e = 0 then 8 * z + 1 - (intOf n).toNat else 0
end Go.Proofs.Ytljejkdkjnbmhaa
/- inflate: codes that are told, plainly: as they are taken. No program in sight. -/
namespace Go.Proofs.Ytljejkdkjnbmhaa

theorem ordN_inj : ∀ i j : Fin 19, ordN i = ordN j → i = j := by decide
theorem unordN_pre (xs ys : List Int) : ∀ k, k ≤ xs.length → unordN (xs ++ ys) k = unordN xs k := by
  intro k
  induction k with
  | zero => intro _; rfl
  | succ k ih =>
    intro h
    rw [unordN, unordN, ih (by omega), List.getD_eq_getElem?_getD, List.getD_eq_getElem?_getD, List.getElem?_append_left (by omega)]
theorem unordN_snoc (xs : List Int) (v : Int) : ∀ d, xs.length + 1 + d ≤ 19 → unordN (xs ++ [v]) (xs.length + 1 + d) = (unordN xs (xs.length + 1 + d)).set (ordN xs.length) v := by
  intro d
  induction d with
  | zero =>
    intro h
    rw [Nat.add_zero, unordN, unordN, unordN_pre xs [v] _ (Nat.le_refl _), List.set_set]
    simp
  | succ d ih =>
    intro h
    rw [show xs.length + 1 + (d + 1) = xs.length + 1 + d + 1 by omega, unordN, unordN, ih (by omega)]
    have hne : ordN xs.length ≠ ordN (xs.length + 1 + d) := fun e => by
      have := ordN_inj ⟨xs.length, by omega⟩ ⟨xs.length + 1 + d, by omega⟩ e
      simp at this
      omega
    rw [List.set_comm _ _ hne, List.getD_eq_getElem?_getD, List.getD_eq_getElem?_getD, List.getElem?_eq_none (by simp only [List.length_append, List.length_cons, List.length_nil]; omega), List.getElem?_eq_none (by omega)]
theorem unordF_snoc (xs : List Int) (v : Int) (h : xs.length < 19) : unordF (xs ++ [v]) = (unordF xs).set (ordN xs.length) v := by
  have := unordN_snoc xs v (18 - xs.length) (by omega)
  rw [show xs.length + 1 + (18 - xs.length) = 19 by omega] at this
  exact this
theorem unordF_nil : unordF [] = zerosF 19 := by decide
theorem take_bd {bs : List Bool} {k n m : Nat} {v : Int} (h : takeG bs k n = .ok v m) : 0 ≤ v ∧ v < 2 ^ k := by
  unfold takeG at h
  split at h
  · cases h
    have hb := valOf_bd ((bs.drop n).take k)
    refine ⟨hb.1, Int.lt_of_lt_of_le hb.2 (pow2_le ?_)⟩
    simp
    omega
  · cases h
/-- What is behind the lengths of the lengths' codes. -/
def codesC (bs : List Bool) (a b : Int) (xs : List Int) (n4 : Nat) : Got (List Int × List Int) :=
  if terrF (unordF xs) = 0 then
    (lengthsG bs (unordF xs) (257 + a.toNat + (1 + b.toNat)) [] n4).bind fun l n5 =>
      if l.getD 256 0 ≠ 0 ∧ terrF (l.take (257 + a.toNat)) = 0 ∧ terrF (l.drop (257 + a.toNat)) = 0 then .ok (l.take (257 + a.toNat), l.drop (257 + a.toNat)) n5 else .bad 2
  else .bad 2
theorem codesG_eq (bs : List Bool) (n0 : Nat) : codesG bs n0 = (takeG bs 5 n0).bind fun a n1 => (takeG bs 5 n1).bind fun b n2 => (takeG bs 4 n2).bind fun c n3 =>
    if 29 < a ∨ 29 < b then .bad 2 else (lensG bs (4 + c.toNat) [] n3).bind (codesC bs a b) := rfl

/-- Where codes that are told stand: the lengths' lengths, as they are laid, up to the k-th; or a fault. -/
def DSt (bs : List Bool) (G : Got (List Int × List Int)) (a b : Int) (c4 k : Nat) (xs X : List Int) (n : Nat) (e : Int) : Prop :=
  (e = 0 → xs.length = min k c4 ∧ X = unordF xs ∧ G = (lensG bs (c4 - k) xs n).bind (codesC bs a b)) ∧ (e ≠ 0 → ∀ v m, GotR G v m e)
theorem take_nbad {bs : List Bool} {k n : Nat} : ∀ e, takeG bs k n = .bad e → e ≠ 0 := by
  intro e h
  unfold takeG at h
  split at h <;> cases h
theorem bind_nbad {α β : Type} {g : Got α} {f : α → Nat → Got β} (h1 : ∀ e, g = .bad e → e ≠ 0) (h2 : ∀ v n e, f v n = .bad e → e ≠ 0) : ∀ e, g.bind f = .bad e → e ≠ 0 := by
  intro e h
  cases g with
  | ok v n => exact h2 v n e h
  | ran => cases h
  | bad e0 => cases h; exact h1 _ rfl
theorem lengths_nbad {bs : List Bool} {T : List Int} {N : Nat} : ∀ d l n, N - l.length ≤ d → ∀ e, lengthsG bs T N l n = .bad e → e ≠ 0 := by
  intro d
  induction d with
  | zero => intro l n hd e h; rw [lengthsG, dif_pos (by omega)] at h; cases h
  | succ d ih =>
    intro l n hd e h
    rw [lengthsG] at h
    split at h
    · cases h
    · next hN =>
      refine bind_nbad sym_bad (fun c n1 => ?_) e h
      intro e h
      split at h
      · exact ih _ _ (by simp; omega) e h
      · split at h
        · split at h
          · cases h; decide
          · refine bind_nbad take_nbad (fun v n2 => ?_) e h
            intro e h
            split at h
            · cases h; decide
            · exact ih _ _ (by simp; omega) e h
        · split at h
          · refine bind_nbad take_nbad (fun v n2 => ?_) e h
            intro e h
            split at h
            · cases h; decide
            · exact ih _ _ (by simp; omega) e h
          · refine bind_nbad take_nbad (fun v n2 => ?_) e h
            intro e h
            split at h
            · cases h; decide
            · exact ih _ _ (by simp; omega) e h
end Go.Proofs.Ytljejkdkjnbmhaa
/- inflate: tokens, plainly: as they are taken. No program in sight. -/
namespace Go.Proofs.Ytljejkdkjnbmhaa

theorem bind_congr {α β : Type} {g : Got α} {f f' : α → Nat → Got β} (h : ∀ v n, g = .ok v n → f v n = f' v n) : g.bind f = g.bind f' := by
  cases g with
  | ok v n => exact h v n rfl
  | ran => rfl
  | bad e => rfl
theorem bind_assoc {α β γ : Type} (g : Got α) (f : α → Nat → Got β) (k : β → Nat → Got γ) : (g.bind f).bind k = g.bind fun v n => (f v n).bind k := by
  cases g <;> rfl
theorem tokG_eq (bs : List Bool) (most : Int) (L D out : List Int) (n0 : Nat) : tokG bs most L D out n0 = (symG bs L n0).bind fun c n1 =>
    if c = 256 then .ok none n1
    else if c < 256 then (if most - out.length < 1 then .bad 12 else .ok (some (out ++ [c])) n1)
    else (lenG bs c n1).bind fun len n2 => (symG bs D n2).bind fun k n3 => (distG bs k n3).bind fun d n4 =>
      if (out.length : Int) < d then .bad 2 else if most - out.length < len then .bad 12 else .ok (some (copyN d.toNat out len.toNat)) n4 := by
  unfold tokG
  refine bind_congr fun c n1 _ => ?_
  split
  · rfl
  · split
    · rfl
    · unfold lenG
      split
      · rfl
      · rw [bind_assoc]
        refine bind_congr fun v n2 hv => ?_
        rw [Got.bind_ok]
        refine bind_congr fun k n3 _ => ?_
        unfold distG
        split
        · rfl
        · rw [bind_assoc]
          refine bind_congr fun u n4 hu => ?_
          rw [Got.bind_ok]
          have h1 := (take_bd hv).1
          have h2 := (take_bd hu).1
          rw [show ((lenT0 c.toNat).1 + v : Int).toNat = (lenT0 c.toNat).1 + v.toNat by omega, show ((distT0 k.toNat).1 + u : Int).toNat = (distT0 k.toNat).1 + u.toNat by omega]
theorem ite_nbad {α : Type} {c : Prop} [Decidable c] {a b : Got α} (h1 : ∀ e, a = .bad e → e ≠ 0) (h2 : ∀ e, b = .bad e → e ≠ 0) : ∀ e, (if c then a else b) = .bad e → e ≠ 0 := by
  intro e h
  split at h
  · exact h1 e h
  · exact h2 e h
theorem ok_nbad {α : Type} {v : α} {n : Nat} : ∀ e, (Got.ok v n) = .bad e → e ≠ 0 := fun e h => by cases h
theorem bad_nbad {α : Type} {e0 : Int} (h : e0 ≠ 0) : ∀ e, (Got.bad e0 : Got α) = .bad e → e ≠ 0 := fun e he => by cases he; exact h
theorem len_nbad {bs : List Bool} {c : Int} {n : Nat} : ∀ e, lenG bs c n = .bad e → e ≠ 0 := by
  unfold lenG
  exact ite_nbad (bad_nbad (by decide)) (bind_nbad take_nbad fun _ _ => ok_nbad)
theorem dist_nbad {bs : List Bool} {c : Int} {n : Nat} : ∀ e, distG bs c n = .bad e → e ≠ 0 := by
  unfold distG
  exact ite_nbad (bad_nbad (by decide)) (bind_nbad take_nbad fun _ _ => ok_nbad)
theorem tok_nbad {bs : List Bool} {most : Int} {L D out : List Int} {n : Nat} : ∀ e, tokG bs most L D out n = .bad e → e ≠ 0 := by
  rw [tokG_eq]
  exact bind_nbad sym_bad fun _ _ => ite_nbad ok_nbad (ite_nbad (ite_nbad (bad_nbad (by decide)) ok_nbad) (bind_nbad len_nbad fun _ _ => bind_nbad sym_bad fun _ _ => bind_nbad dist_nbad fun _ _ => ite_nbad (bad_nbad (by decide)) (ite_nbad (bad_nbad (by decide)) ok_nbad)))

/-- Unpacking comes to a fault. -/
def Faults (bs : List Bool) (most : Int) (st : Inf) (e : Int) : Prop := ∃ b, Steps bs most st b ∧ b.done = false ∧ ((stepG bs most b = .ran ∧ e = 2) ∨ stepG bs most b = .bad e)
/-- Where a block of tokens stands. -/
def TokSt (bs : List Bool) (most : Int) (t : List Int × List Int) (last : Bool) (st0 : Inf) (out : List Int) (n : Nat) (e : Int) : Prop :=
  (e = 0 → Steps bs most st0 ⟨n, out, some t, last⟩) ∧ (e ≠ 0 → Faults bs most st0 e)
/-- .. behind it. -/
def TokEnd (bs : List Bool) (most : Int) (last : Bool) (st0 : Inf) (out : List Int) (n : Nat) (e : Int) : Prop :=
  (e = 0 → Steps bs most st0 ⟨n, out, none, last⟩) ∧ (e ≠ 0 → Faults bs most st0 e)
end Go.Proofs.Ytljejkdkjnbmhaa
/- inflate: blocks, plainly: as they are taken. No program in sight. -/
namespace Go.Proofs.Ytljejkdkjnbmhaa

theorem steps_mono {bs : List Bool} {most : Int} {a b : Inf} (h : Steps bs most a b) : a.n ≤ bs.length → a.n ≤ b.n ∧ b.n ≤ bs.length := by
  induction h with
  | refl => intro h; exact ⟨Nat.le_refl _, h⟩
  | step hd hs _ ih =>
    intro h
    have h1 := step_goes h hs
    have h2 := ih h1.2
    omega
theorem stored_nbad {bs : List Bool} {most : Int} {out : List Int} {n : Nat} : ∀ e, storedG bs most out n = .bad e → e ≠ 0 := by
  unfold storedG
  exact bind_nbad take_nbad fun _ _ => bind_nbad take_nbad fun _ _ => ite_nbad (ite_nbad (ite_nbad (bad_nbad (by decide)) ok_nbad) (fun e h => by cases h)) (bad_nbad (by decide))
theorem lens_nbad {bs : List Bool} : ∀ k xs n e, lensG bs k xs n = .bad e → e ≠ 0 := by
  intro k
  induction k with
  | zero => intro xs n e h; cases h
  | succ k ih => intro xs n; exact bind_nbad take_nbad fun _ _ => ih _ _
theorem codes_nbad {bs : List Bool} {n : Nat} : ∀ e, codesG bs n = .bad e → e ≠ 0 := by
  rw [codesG_eq]
  refine bind_nbad take_nbad fun _ _ => bind_nbad take_nbad fun _ _ => bind_nbad take_nbad fun _ _ => ite_nbad (bad_nbad (by decide)) (bind_nbad (lens_nbad _ _ _) fun _ _ => ?_)
  unfold codesC
  exact ite_nbad (bind_nbad (lengths_nbad _ _ _ (Nat.le_refl _)) fun _ _ => ite_nbad ok_nbad (bad_nbad (by decide))) (bad_nbad (by decide))
/-- What unpacking answers. -/
def InfRes (bs : List Bool) (most : Int) (t : ByteArray) (u e : Int) : Prop := match inflF bs most with
  | .ok out n => t = strOfNums out ∧ u = nbytes n ∧ e = 0
  | .err e0 => t = ByteArray.empty ∧ u = 0 ∧ e = e0
  | .more => False
end Go.Proofs.Ytljejkdkjnbmhaa
/- stream: what the walks know plainly. No program in sight. (Written by tools/sts.py.) -/
namespace Go.Proofs.Ytljejkdkjnbmhaa
open Go.RowKit

/-- What a part of unpacking yields, said of a value, a place and a state: 0, -1 (the bits ran out), or a fault. -/
def GotS {α : Type} (g : Got α) (v : α) (n : Nat) (e : Int) : Prop := match g with
  | .ok v0 m => v = v0 ∧ n = m ∧ e = 0
  | .ran => e = -1
  | .bad e0 => e = e0
/-- A taking: its value, where the next bit stands, the state. -/
def ptV (s : ByteArray) (n : Nat) (k : Int) (e : Int) : Int := if e = 0 then tkV s n k else 0
def ptN (s : ByteArray) (n : Nat) (k : Int) (e : Int) : Nat := if e = 0 then tkN s n k else n
def ptE (s : ByteArray) (n : Nat) (k : Int) (e : Int) : Int := if tkOk s n k then e else if e = 0 then -1 else e
theorem ptE_ne {s : ByteArray} {n : Nat} {k e : Int} (h : e ≠ 0) : ptE s n k e = e := by
  unfold ptE
  rw [if_neg h]
  split <;> rfl
theorem ptV_ne {s : ByteArray} {n : Nat} {k e : Int} (h : e ≠ 0) : ptV s n k e = 0 := if_neg h
theorem ptN_ne {s : ByteArray} {n : Nat} {k e : Int} (h : e ≠ 0) : ptN s n k e = n := if_neg h
theorem ptV_zero {s : ByteArray} {n : Nat} {k : Int} : ptV s n k 0 = tkV s n k := if_pos rfl
theorem ptN_zero {s : ByteArray} {n : Nat} {k : Int} : ptN s n k 0 = tkN s n k := if_pos rfl
theorem ptN_le {s : ByteArray} {n k : Nat} {e : Int} (h : n ≤ 8 * s.size) : ptN s n k e ≤ 8 * s.size := by
  unfold ptN
  split
  · exact tkN_le h
  · exact h
theorem ptV_bd {s : ByteArray} {n k : Nat} {e : Int} (hk : k ≤ 16) (hn : n ≤ 8 * s.size) : 0 ≤ ptV s n k e ∧ ptV s n k e < 65536 := by
  unfold ptV
  split
  · exact ⟨(tk_got (s := s) (n := n) (k := k) (by omega) hn).2.2, tkV_lt hk⟩
  · omega
theorem tkS_got {s : ByteArray} {n k : Nat} (hk : k ≤ 62) (hn : n ≤ 8 * s.size) : GotS (takeG (textBits s) k n) (tkV s n k) (tkN s n k) (if tkOk s n k then 0 else -1) ∧ tkN s n k ≤ 8 * s.size ∧ 0 ≤ tkV s n k := by
  obtain ⟨h1, h2, h3⟩ := tk_got (s := s) (n := n) hk hn
  refine ⟨?_, h2, h3⟩
  unfold takeG at h1 ⊢
  split at h1
  · next hl =>
    rw [if_pos hl]
    obtain ⟨e1, e2, e3⟩ := h1
    refine ⟨e1, e2, ?_⟩
    by_cases ho : tkOk s n k
    · rw [if_pos ho]
    · rw [if_neg ho] at e3; omega
  · next hl =>
    rw [if_neg hl]
    have h1 : (if tkOk s n k then (0 : Int) else 2) = 2 := h1
    show (if tkOk s n k then (0 : Int) else -1) = -1
    by_cases ho : tkOk s n k
    · rw [if_pos ho] at h1; omega
    · rw [if_neg ho]
theorem pt_got {s : ByteArray} {n k : Nat} {e : Int} (hk : k ≤ 62) (hn : n ≤ 8 * s.size) (he : e = 0) : GotS (takeG (textBits s) k n) (ptV s n k e) (ptN s n k e) (ptE s n k e) := by
  subst he
  have h := (tkS_got (s := s) (n := n) hk hn).1
  rw [ptV_zero, ptN_zero]
  unfold ptE
  rw [if_pos rfl]
  exact h
theorem pt_zero {s : ByteArray} {n : Nat} {e : Int} (hn : n ≤ 8 * s.size) : ptV s n ((0 : Nat) : Int) e = 0 ∧ ptN s n ((0 : Nat) : Int) e = n ∧ ptE s n ((0 : Nat) : Int) e = e := by
  obtain ⟨h1, h2, -⟩ := tk_zero (s := s) (e := e) hn
  have h : tkOk s n ((0 : Nat) : Int) := by unfold tkOk; omega
  unfold ptV ptN ptE
  rw [h1, h2, if_pos h]
  split <;> exact ⟨rfl, rfl, rfl⟩
theorem dec_e' (l : List Int) : ∀ f m c b, (decN l f m c b).2.1 = 0 ∨ (decN l f m c b).2.1 = 2 := by
  intro f
  induction f with
  | zero => intro m c b; right; rfl
  | succ f ih =>
    intro m c b
    cases b with
    | nil => right; rfl
    | cons x t =>
      rw [decN]
      split
      · left; rfl
      · exact ih _ _ _
theorem sym_gotS {l : List Int} {bs : List Bool} {n : Nat} : GotS (symG bs l n) (decF l (bs.drop n)).1 (n + (decF l (bs.drop n)).2.2) (if (decF l (bs.drop n)).2.1 ≠ 0 ∧ (decF l (bs.drop n)).2.2 < 15 then -1 else (decF l (bs.drop n)).2.1) := by
  have h : (decF l (bs.drop n)).2.1 = 0 ∨ (decF l (bs.drop n)).2.1 = 2 := dec_e' l 15 0 0 _
  unfold symG
  rcases h with h | h
  · rw [if_pos h, if_neg (by simp [h])]
    exact ⟨rfl, rfl, h⟩
  · rw [if_neg (by omega)]
    by_cases h2 : (decF l (bs.drop n)).2.2 < 15
    · rw [if_pos h2, if_pos ⟨by omega, h2⟩]; rfl
    · rw [if_neg h2, if_neg (fun hh => h2 hh.2)]; exact h
theorem gotS_any {α : Type} {g : Got α} {v v' : α} {m m' : Nat} {e : Int} (h : GotS g v m e) (he : e ≠ 0) : GotS g v' m' e := by
  unfold GotS at *
  cases g with
  | ok v0 n0 => exact absurd h.2.2 he
  | ran => exact h
  | bad e0 => exact h
theorem gotS_bind {α β : Type} {g : Got α} {f : α → Nat → Got β} {v : α} {v' : β} {m m' : Nat} {e : Int} (h : GotS g v m e) (he : e ≠ 0) : GotS (g.bind f) v' m' e := by
  unfold GotS at h ⊢
  cases g with
  | ok v0 n0 => exact absurd h.2.2 he
  | ran => exact h
  | bad e0 => exact h
theorem gotS_ok {α : Type} {g : Got α} {v : α} {m : Nat} (h : GotS g v m 0) (hb : ∀ e, g = .bad e → e ≠ 0) : g = .ok v m := by
  unfold GotS at h
  cases g with
  | ok v0 n0 => rw [h.1, h.2.1]
  | ran => have h : (0 : Int) = -1 := h; omega
  | bad e0 => have h : (0 : Int) = e0 := h; exact absurd h.symm (hb _ rfl)
/-- Where lengths stand: as they go on, or a fault. -/
def LStS (bs : List Bool) (G : Got (List Int)) (T : List Int) (N : Nat) (l : List Int) (n : Nat) (e : Int) : Prop := (e = 0 → lengthsG bs T N l n = G) ∧ (e ≠ 0 → ∀ v m, GotS G v m e)
theorem lstS_start {bs : List Bool} {T : List Int} {N n : Nat} : LStS bs (lengthsG bs T N [] n) T N [] n 0 := ⟨fun _ => rfl, fun h => absurd rfl h⟩
theorem lstS_end {bs : List Bool} {G : Got (List Int)} {T l : List Int} {N n : Nat} {e : Int} (h : LStS bs G T N l n e) (hx : e ≠ 0 ∨ N ≤ l.length) : GotS G l n e := by
  by_cases he : e = 0
  · subst he
    rw [← h.1 rfl, lengthsG, dif_pos (hx.resolve_left (by simp))]
    exact ⟨rfl, rfl, rfl⟩
  · exact h.2 he _ _
/-- Behind a symbol. -/
theorem lstS_sym {bs : List Bool} {G : Got (List Int)} {T l : List Int} {N n n1 : Nat} {c e1 : Int} (h : LStS bs G T N l n 0) (hl : l.length < N) (hs : GotS (symG bs T n) c n1 e1) :
    (e1 ≠ 0 → LStS bs G T N l n1 e1) ∧ (e1 = 0 → (c < 16 → LStS bs G T N (l ++ [c]) n1 0) ∧ (c = 16 → l.length = 0 → ∀ v m, GotS G v m 2) ∧
      (c = 16 → l.length ≠ 0 → G = (takeG bs 2 n1).bind fun v n2 => if N < l.length + (3 + v.toNat) then .bad 2 else lengthsG bs T N (l ++ List.replicate (3 + v.toNat) (l.getD (l.length - 1) 0)) n2) ∧
      (c = 17 → G = (takeG bs 3 n1).bind fun v n2 => if N < l.length + (3 + v.toNat) then .bad 2 else lengthsG bs T N (l ++ List.replicate (3 + v.toNat) 0) n2) ∧
      (17 < c → G = (takeG bs 7 n1).bind fun v n2 => if N < l.length + (11 + v.toNat) then .bad 2 else lengthsG bs T N (l ++ List.replicate (11 + v.toNat) 0) n2)) := by
  have hG := h.1 rfl
  rw [lengthsG, dif_neg (by omega)] at hG
  refine ⟨fun he => ⟨fun h0 => absurd h0 he, fun _ v m => by rw [← hG]; exact gotS_bind hs he⟩, fun he => ?_⟩
  subst he
  rw [gotS_ok hs sym_bad, Got.bind_ok] at hG
  refine ⟨fun hc => ⟨fun _ => ?_, fun h0 => absurd rfl h0⟩, fun hc h0 v m => ?_, fun hc h0 => ?_, fun hc => ?_, fun hc => ?_⟩
  · rw [if_pos hc] at hG; exact hG
  · rw [if_neg (by omega), if_pos hc, if_pos h0] at hG; rw [← hG]; rfl
  · rw [if_neg (by omega), if_pos hc, if_neg h0] at hG; exact hG.symm
  · rw [if_neg (by omega), if_neg (by omega), if_pos hc] at hG; exact hG.symm
  · rw [if_neg (by omega), if_neg (by omega), if_neg (by omega)] at hG; exact hG.symm
/-- A number that is told, and bits more. -/
theorem addS_got {s : ByteArray} {n k b : Nat} {e : Int} (hk : k ≤ 16) (hn : n ≤ 8 * s.size) (he : e = 0) : GotS ((takeG (textBits s) k n).bind fun v m => .ok (b + v) m) (b + tkV s n k) (tkN s n k) (ptE s n k e) := by
  subst he
  have h := (tkS_got (s := s) (n := n) (k := k) (by omega) hn).1
  unfold takeG at h ⊢
  unfold ptE
  split at h
  · next hl =>
    obtain ⟨h1, h2, h3⟩ := h
    rw [if_pos hl, Got.bind_ok, h1, h2]
    refine ⟨rfl, rfl, ?_⟩
    split
    · rfl
    · next ho => rw [if_neg ho] at h3; omega
  · next hl =>
    have h3 : (if tkOk s n k then (0 : Int) else -1) = -1 := h
    rw [if_neg hl, Got.bind_ran]
    show _ = (-1 : Int)
    split
    · next ho => rw [if_pos ho] at h3; omega
    · rfl
/-- Behind a length again. -/
theorem lstS_again {s : ByteArray} {G : Got (List Int)} {T l : List Int} {N n1 j b V : Nat} {x : Int} (hj : j ≤ 16) (hn : n1 ≤ 8 * s.size) (hV : tkV s n1 j = V)
    (hG : G = (takeG (textBits s) j n1).bind fun v n2 => if N < l.length + (b + v.toNat) then .bad 2 else lengthsG (textBits s) T N (l ++ List.replicate (b + v.toNat) x) n2) :
    LStS (textBits s) G T N (agL N l (b + V) x) (tkN s n1 j) (agE N l (b + V) (ptE s n1 j 0)) := by
  have h := (tkS_got (s := s) (n := n1) (k := j) (by omega) hn).1
  unfold takeG at h hG
  unfold ptE
  split at h
  · next hl =>
    obtain ⟨h1, h2, h3⟩ := h
    rw [if_pos hl, Got.bind_ok, ← h1, ← h2, hV, Int.toNat_natCast] at hG
    have ho : tkOk s n1 j := by
      by_cases ho : tkOk s n1 j
      · exact ho
      · rw [if_neg ho] at h3; omega
    rw [if_pos ho]
    unfold agE agL
    split at hG
    · next hx =>
      rw [if_pos hx, if_pos hx, if_pos rfl]
      exact ⟨fun h => absurd h (by decide), fun _ v m => by rw [hG]; rfl⟩
    · next hx =>
      rw [if_neg hx, if_neg hx]
      exact ⟨fun _ => hG.symm, fun h => absurd rfl h⟩
  · next hl =>
    have h3 : (if tkOk s n1 j then (0 : Int) else -1) = -1 := h
    rw [if_neg hl, Got.bind_ran] at hG
    have ho : ¬ tkOk s n1 j := fun ho => by rw [if_pos ho] at h3; omega
    rw [if_neg ho, if_pos rfl]
    have e2 : agE N l (b + V) (-1) = -1 := by unfold agE; split <;> simp
    rw [e2]
    exact ⟨fun h => absurd h (by decide), fun _ v m => by rw [hG]; rfl⟩
/-- Where codes that are told stand: the lengths' lengths, as they are laid, up to the k-th; or a fault. -/
def DStS (bs : List Bool) (G : Got (List Int × List Int)) (a b : Int) (c4 k : Nat) (xs X : List Int) (n : Nat) (e : Int) : Prop :=
  (e = 0 → xs.length = min k c4 ∧ X = unordF xs ∧ G = (lensG bs (c4 - k) xs n).bind (codesC bs a b)) ∧ (e ≠ 0 → ∀ v m, GotS G v m e)
theorem dstS_start {bs : List Bool} {n0 n1 n2 n3 : Nat} {a b c e1 e2 e3 : Int} (h1 : GotS (takeG bs 5 n0) a n1 e1) (h2 : e1 ≠ 0 → e2 = e1) (h2' : e1 = 0 → GotS (takeG bs 5 n1) b n2 e2)
    (h3 : e2 ≠ 0 → e3 = e2) (h3' : e2 = 0 → GotS (takeG bs 4 n2) c n3 e3) :
    (e3 = 0 → (0 ≤ a ∧ a < 32) ∧ (0 ≤ b ∧ b < 32) ∧ (0 ≤ c ∧ c < 16)) ∧ ((29 < a ∨ 29 < b) → ∀ v m, GotS (codesG bs n0) v m (if e3 = 0 then 2 else e3)) ∧
    (¬ (29 < a ∨ 29 < b) → DStS bs (codesG bs n0) a b (4 + c.toNat) 0 [] (zerosF 19) n3 e3) := by
  rw [codesG_eq]
  by_cases he1 : e1 = 0
  case neg =>
    obtain rfl := h2 he1
    obtain rfl := h3 he1
    refine ⟨fun h => absurd h he1, fun _ v m => ?_, fun _ => ⟨fun h => absurd h he1, fun _ v m => gotS_bind h1 he1⟩⟩
    rw [if_neg he1]
    exact gotS_bind h1 he1
  subst he1
  have g1 := gotS_ok h1 take_nbad
  rw [g1, Got.bind_ok]
  have h2 := h2' rfl
  by_cases he2 : e2 = 0
  case neg =>
    obtain rfl := h3 he2
    refine ⟨fun h => absurd h he2, fun _ v m => ?_, fun _ => ⟨fun h => absurd h he2, fun _ v m => gotS_bind h2 he2⟩⟩
    rw [if_neg he2]
    exact gotS_bind h2 he2
  subst he2
  have g2 := gotS_ok h2 take_nbad
  rw [g2, Got.bind_ok]
  have h3 := h3' rfl
  by_cases he3 : e3 = 0
  case neg =>
    refine ⟨fun h => absurd h he3, fun _ v m => ?_, fun _ => ⟨fun h => absurd h he3, fun _ v m => gotS_bind h3 he3⟩⟩
    rw [if_neg he3]
    exact gotS_bind h3 he3
  subst he3
  have g3 := gotS_ok h3 take_nbad
  rw [g3, Got.bind_ok]
  refine ⟨fun _ => ⟨take_bd g1, take_bd g2, take_bd g3⟩, fun hx v m => ?_, fun hx => ⟨fun _ => ⟨by simp, unordF_nil.symm, ?_⟩, fun h => absurd rfl h⟩⟩
  · rw [if_pos rfl, if_pos hx]; rfl
  · rw [if_neg hx]; rfl
theorem dstS_bad {bs : List Bool} {G : Got (List Int × List Int)} {a b : Int} {c4 k k' n n' : Nat} {xs xs' X X' : List Int} {e : Int} (h : DStS bs G a b c4 k xs X n e) (he : e ≠ 0) : DStS bs G a b c4 k' xs' X' n' e :=
  ⟨fun h0 => absurd h0 he, h.2⟩
theorem dstS_take {bs : List Bool} {G : Got (List Int × List Int)} {a b : Int} {c4 k n n' : Nat} {xs X : List Int} {v e' : Int} (h : DStS bs G a b c4 k xs X n 0) (hk : k < c4) (hc : c4 ≤ 19) (ht : GotS (takeG bs 3 n) v n' e') : DStS bs G a b c4 (k + 1) (xs ++ [v]) (X.set (ordN k) v) n' e' := by
  obtain ⟨h1, h2, h3⟩ := h.1 rfl
  rw [show c4 - k = (c4 - (k + 1)) + 1 by omega, lensG] at h3
  have hxl : xs.length = k := by omega
  by_cases he : e' = 0
  · subst he
    rw [gotS_ok ht take_nbad, Got.bind_ok] at h3
    refine ⟨fun _ => ⟨by rw [List.length_append]; simp; omega, ?_, h3⟩, fun h => absurd rfl h⟩
    rw [unordF_snoc xs v (by omega), hxl, h2]
  · refine ⟨fun h0 => absurd h0 he, fun _ u m => ?_⟩
    rw [h3]
    exact gotS_bind (v := []) (m := 0) (gotS_bind ht he) he
/-- Behind the table of the lengths' codes. -/
theorem codesS_end {bs : List Bool} {G : Got (List Int × List Int)} {A B n n' : Nat} {xs l : List Int} {e' : Int} (hG : G = codesC bs A B xs n) :
    (terrF (unordF xs) ≠ 0 → ∀ v m, GotS G v m 2) ∧ (terrF (unordF xs) = 0 → GotS (lengthsG bs (unordF xs) (257 + A + (1 + B)) [] n) l n' e' →
      (e' ≠ 0 → ∀ v m, GotS G v m e') ∧ (e' = 0 → G = if l.getD 256 0 ≠ 0 ∧ terrF (l.take (257 + A)) = 0 ∧ terrF (l.drop (257 + A)) = 0 then .ok (l.take (257 + A), l.drop (257 + A)) n' else .bad 2)) := by
  unfold codesC at hG
  simp only [Int.toNat_natCast] at hG
  refine ⟨fun h v m => by rw [hG, if_neg h]; rfl, fun h hl => ?_⟩
  rw [if_pos h] at hG
  refine ⟨fun he v m => by rw [hG]; exact gotS_bind hl he, fun he => ?_⟩
  subst he
  rw [hG]
  have hok : lengthsG bs (unordF xs) (257 + A + (1 + B)) [] n = .ok l n' := by
    refine gotS_ok hl fun e hb => ?_
    exact lengths_nbad _ _ _ (Nat.le_refl _) e hb
  rw [hok, Got.bind_ok]
/-- Behind a symbol. -/
theorem tokS_sym {bs : List Bool} {most : Int} {L D out : List Int} {n n1 : Nat} {c e1 : Int} (hs : GotS (symG bs L n) c n1 e1) :
    (e1 ≠ 0 → GotS (tokG bs most L D out n) none 0 e1) ∧ (e1 = 0 → c = 256 → GotS (tokG bs most L D out n) none n1 0) ∧
    (e1 = 0 → c < 256 → (most - out.length < 1 → GotS (tokG bs most L D out n) none 0 12) ∧ (¬ most - out.length < 1 → GotS (tokG bs most L D out n) (some (out ++ [c])) n1 0)) ∧
    (e1 = 0 → 256 < c → tokG bs most L D out n = (lenG bs c n1).bind fun len n2 => (symG bs D n2).bind fun k n3 => (distG bs k n3).bind fun d n4 =>
      if (out.length : Int) < d then .bad 2 else if most - out.length < len then .bad 12 else .ok (some (copyN d.toNat out len.toNat)) n4) := by
  rw [tokG_eq]
  refine ⟨fun he => gotS_bind hs he, fun he hc => ?_, fun he hc => ⟨fun h => ?_, fun h => ?_⟩, fun he hc => ?_⟩
  all_goals
    subst he
    rw [gotS_ok hs sym_bad, Got.bind_ok]
  · rw [if_pos hc]; exact ⟨rfl, rfl, rfl⟩
  · rw [if_neg (by omega), if_pos hc, if_pos h]; rfl
  · rw [if_neg (by omega), if_pos hc, if_neg h]; exact ⟨rfl, rfl, rfl⟩
  · rw [if_neg (by omega), if_neg (by omega)]
/-- Behind a length and a distance. -/
theorem tokS_far {bs : List Bool} {most : Int} {D out : List Int} {G : Got (Option (List Int))} {n1 n2 n3 n4 : Nat} {c len k d e2 e3 e4 : Int}
    (hG : G = (lenG bs c n1).bind fun len n2 => (symG bs D n2).bind fun k n3 => (distG bs k n3).bind fun d n4 =>
      if (out.length : Int) < d then .bad 2 else if most - out.length < len then .bad 12 else .ok (some (copyN d.toNat out len.toNat)) n4)
    (h2 : GotS (lenG bs c n1) len n2 e2) (h3 : e2 ≠ 0 → e3 = e2) (h3' : e2 = 0 → GotS (symG bs D n2) k n3 e3) (h4 : e3 ≠ 0 → e4 = e3) (h4' : e3 = 0 → GotS (distG bs k n3) d n4 e4) :
    (e4 ≠ 0 → GotS G none 0 e4) ∧ (e4 = 0 → ((out.length : Int) < d → GotS G none 0 2) ∧ (¬ (out.length : Int) < d → (most - out.length < len → GotS G none 0 12) ∧ (¬ most - out.length < len → GotS G (some (copyN d.toNat out len.toNat)) n4 0))) := by
  rw [hG]
  clear hG
  by_cases he2 : e2 = 0
  case neg =>
    obtain rfl := h3 he2
    obtain rfl := h4 he2
    exact ⟨fun _ => gotS_bind h2 he2, fun h => absurd h he2⟩
  subst he2
  rw [gotS_ok h2 len_nbad, Got.bind_ok]
  have h3 := h3' rfl
  by_cases he3 : e3 = 0
  case neg =>
    obtain rfl := h4 he3
    exact ⟨fun _ => gotS_bind h3 he3, fun h => absurd h he3⟩
  subst he3
  rw [gotS_ok h3 sym_bad, Got.bind_ok]
  have h4 := h4' rfl
  by_cases he4 : e4 = 0
  case neg => exact ⟨fun _ => gotS_bind h4 he4, fun h => absurd h he4⟩
  subst he4
  rw [gotS_ok h4 dist_nbad, Got.bind_ok]
  refine ⟨fun h => absurd rfl h, fun _ => ⟨fun h => ?_, fun h => ⟨fun h' => ?_, fun h' => ?_⟩⟩⟩
  · rw [if_pos h]; rfl
  · rw [if_neg h, if_pos h']; rfl
  · rw [if_neg h, if_neg h']; exact ⟨rfl, rfl, rfl⟩
theorem takeS_got {bs : List Bool} {k n n' : Nat} {v e : Int} (h : GotS (takeG bs k n) v n' e) : (e = 0 ∧ takeG bs k n = .ok v n' ∧ n' = n + k ∧ n' ≤ bs.length) ∨ (e = -1 ∧ takeG bs k n = .ran) := by
  unfold takeG at h ⊢
  split at h
  · next h2 =>
    rw [if_pos h2]
    obtain ⟨rfl, rfl, rfl⟩ := h
    exact .inl ⟨rfl, rfl, rfl, h2⟩
  · next h2 =>
    rw [if_neg h2]
    exact .inr ⟨h, rfl⟩
/-- .. behind its first three bits. -/
theorem headS_takes {bs : List Bool} {most : Int} {out : List Int} {lst : Bool} {n n1 n2 : Nat} {a k e1 e2 : Int} (h1 : GotS (takeG bs 1 n) a n1 e1) (h2 : e1 ≠ 0 → e2 = e1) (h2' : e1 = 0 → GotS (takeG bs 2 n1) k n2 e2) :
    (e2 ≠ 0 → GotS (headG bs most ⟨n, out, none, lst⟩) Inf.init 0 e2) ∧ (e2 = 0 → (0 ≤ a ∧ a < 2) ∧ (0 ≤ k ∧ k < 4) ∧ n2 = n + 3 ∧
      headG bs most ⟨n, out, none, lst⟩ = if k = 0 then (storedG bs most out n2).bind fun o n3 => .ok ⟨n3, o, none, decide (a = 1)⟩ n3
        else if k = 1 then .ok ⟨n2, out, some fixTab, decide (a = 1)⟩ n2
        else if k = 2 then (codesG bs n2).bind fun t n3 => .ok ⟨n3, out, some t, decide (a = 1)⟩ n3
        else .bad 2) := by
  unfold headG
  simp only
  by_cases he1 : e1 = 0
  case neg =>
    obtain rfl := h2 he1
    exact ⟨fun _ => gotS_bind h1 he1, fun h => absurd h he1⟩
  subst he1
  have t1 := gotS_ok h1 take_nbad
  rw [t1, Got.bind_ok]
  have h2 := h2' rfl
  by_cases he2 : e2 = 0
  case neg => exact ⟨fun _ => gotS_bind h2 he2, fun h => absurd h he2⟩
  subst he2
  have t2 := gotS_ok h2 take_nbad
  rw [t2, Got.bind_ok]
  have b1 := take_bd t1
  have b2 := take_bd t2
  have g1 := takeS_got h1
  have g2 := takeS_got h2
  refine ⟨fun h => absurd rfl h, fun _ => ⟨b1, b2, by omega, rfl⟩⟩
theorem addP_got {s : ByteArray} {n k b : Nat} {e : Int} (hk : k ≤ 16) (hn : n ≤ 8 * s.size) (he : e = 0) : GotS ((takeG (textBits s) k n).bind fun v m => .ok (b + v) m) (b + ptV s n k e) (ptN s n k e) (ptE s n k e) := by
  have h := addS_got (b := b) hk hn he
  subst he
  rw [ptV_zero, ptN_zero]
  exact h

end Go.Proofs.Ytljejkdkjnbmhaa
/- huff: the walks of counts and left. -/
namespace Go.Proofs.Ytljejkdkjnbmhaa
open Go.RowKit


theorem results_cell2 {P : Program} {fn : Func} {p u : Tmp} {ty : TypeId} (h : fn.results = #[.cell p ty, .tmp u]) (tmps : Array Value) (w : World) (g : Nat) (t : TypeId) (cs : Array Value) (fr : Nat × Nat) (d : TypeDesc)
    (hp : tmps.getD p undef = .pointer (some ⟨g, 0, none⟩)) (hg : w.heap[g]? = some (.cells cs t fr))
    (hu : P.underlying ty = some d) (hd : (match d with | .struct _ | .array _ _ => true | _ => false) = true) (hi : (P.info? ty).map (·.size) = some cs.size) :
    (results fn tmps).run P w = .ok (.tuple #[.agg cs, tmps.getD u undef]) w := by
  rw [results_cell_tmp h, hp]
  simp [asAddr, run_loadVar_row w g t ty cs fr d hg hu hd hi, Result.andThen]
theorem arrInfo (cs : List Int) (h : cs.length = 16) : (Try.prog.info? 107).map (·.size) = some (nums cs).toArray.size := by
  rw [List.size_toArray, nums_length, h]
  kernel_rfl
section
variable {w0 w : World} {ps : List Piece} {ops : Array Oper} {rest : List Oper} {o : Oper} {a : Act} {Q : Exit → Act → World → Prop}
/-- A whole array of 16 is read. -/
theorem wpList_load16 (hgd : o.guard = none) (x : Operand) (ho : o.op = .load 107 x) {g : Nat} (hx : a.eval x = .pointer (some ⟨g, 0, none⟩)) {cs : List Int} (hl : cs.length = 16) (H : Own w0 w (blk g (.cells (nums cs).toArray 107) :: ps))
    (h : wpList Try.prog ops Q rest (a.put o.dst (.agg (nums cs).toArray)) w) : wpList Try.prog ops Q (o :: rest) a w :=
  wpList_load_row hgd 107 x ho g hx 107 (nums cs).toArray (0, 0) _ H.block.1 Try.underlying107 rfl (arrInfo cs hl) h
/-- A whole array of 16 is stored. -/
theorem wpList_store16 (hgd : o.guard = none) (x y : Operand) (ho : o.op = .store 107 x y) {g : Nat} (hx : a.eval x = .pointer (some ⟨g, 0, none⟩)) {cs ds : List Int} (hl : cs.length = 16) (hd : ds.length = 16)
    (H : Own w0 w (blk g (.cells (nums cs).toArray 107) :: ps)) (hv : a.eval y = .agg (nums ds).toArray)
    (h : ∀ w', Own w0 w' (blk g (.cells (nums ds).toArray 107) :: ps) → wpList Try.prog ops Q rest (a.put o.dst undef) w') : wpList Try.prog ops Q (o :: rest) a w :=
  wpList_store_agg hgd x y ho hx H hv (by have := arrInfo ds hd; rw [List.size_toArray] at this; exact this) (by rw [List.size_toArray, nums_length, nums_length, hl, hd]; omega) (nums_one ds) (store_whole _ _ (by rw [nums_length, nums_length, hl, hd])) h
end

set_option maxHeartbeats 3200000 in
theorem counts_any {w : World} {v : Value} {n : Nat} {F : List Int} (hr : Rd w 1 v n (nums F)) (hn : n ≤ 1000000) :
    Calls Try.prog 65 #[v] w (Ret fun r w' => (∃ cs : List Int, cs.length = 16 ∧ r = .tuple #[.agg (nums cs).toArray, .bool (mayF F)] ∧ (mayF F = true → cs = countsF F)) ∧ Own w w' []) := by
  have hl := Lib.hid (rd_len hr)
  obtain ⟨a, c, rfl, hc1, hc2⟩ := hr.shape
  have HR := Lib.hid hr
  obtain ⟨Z, hZ⟩ : ∃ Z, Hid (mayF F = Z) := ⟨_, rfl⟩
  rw [hZ.out]
  clear hr
  have H := (Own.start w).alloc2 (.cells (nums (zerosF 16)).toArray 107) (.cells (nums (zerosF 16)).toArray 107)
  rw [arr_zero] at H
  go_enter Try.func65, Try.ntmps65
  go_upto_region 2 with (fail)
  generalize (w.alloc _).alloc _ = wa at *
  rw [← arr_zero] at H
  obtain ⟨cb, hcb⟩ : ∃ g, w.heap.size + 1 = g := ⟨_, rfl⟩
  rw [hcb] at H ⊢
  generalize w.heap.size = rb at *
  clear hcb
  have hzl : (zerosF 16).length = 16 := by simp [zerosF]
  by_cases h320 : 320 < n
  · have e : Hid (Z = false) := Lib.hid (by
      rw [← hZ.out]; unfold mayF
      have := hl.out
      rw [decide_eq_false (by omega), Bool.false_and])
    have hI : (320 : Int) < (n : Int) := by omega
    go_wp2_with (first
      | (refine wpList_load16 rfl _ rfl rfl hzl H ?_)
      | (refine wpList_store16 rfl _ _ rfl rfl hzl hzl H.swap rfl ?_; clear H; intro w2 H))
    refine bodyPost_ret (results_cell2 rfl _ _ rb _ _ _ _ rfl H.block.1 Try.underlying107 rfl (arrInfo _ hzl)) rfl ?_
    exact ⟨_, rfl, ⟨_, hzl, by rw [e.out]; rfl, fun h => by rw [e.out] at h; cases h⟩, H.bare⟩
  · have hI : ¬ (320 : Int) < (n : Int) := by omega
    go_wp2_with fail
    go_loopw [13] (fun s13 wx => ∃ i : Nat, s13 = .int .i64 i ∧ i ≤ n ∧ Hid ((F.take i).all okLen = true) ∧ Own w wx [blk cb (.cells (nums (bumpF (zerosF 16) (F.take i))).toArray 107), blk rb (.cells (nums (zerosF 16)).toArray 107)]) (fun s13 _ => n - (intOf s13).toNat)
    case atStart => exact ⟨0, by go_num, by omega, Lib.hid rfl, by simpa [bumpF] using H⟩
    case round =>
      clear H
      obtain ⟨i, rfl, hi, hal, H⟩ := hrel
      have hbl : (bumpF (zerosF 16) (F.take i)).length = 16 := by rw [bumpF_length]; exact hzl
      by_cases hlt : i < n
      · have hI2 : (i : Int) < (n : Int) := by omega
        have hs := all_take_succ (p := okLen) (F := F) (i := i) (by have := hl.out; omega)
        have hbt : bumpF (zerosF 16) (F.take (i + 1)) = bump1 (bumpF (zerosF 16) (F.take i)) (F.getD i 0) := bump_take (getD_get (by have := hl.out; omega))
        have hbb := fun j => bump_bound (F.take i) (zerosF 16) j 0 (fun j => by rw [zeros_get]; omega)
        have hll : (F.take i).length ≤ 1000000 := by rw [List.length_take]; omega
        obtain ⟨b, o, rfl, c1⟩ := rd_at HR.out H hlt
        have hbad : okLen (F.getD i 0) = false → Hid (Z = false) := fun h => Lib.hid (by
          rw [← hZ.out]
          unfold mayF
          have : F.all okLen = false := by
            rw [List.all_eq_false]
            refine ⟨F.getD i 0, ?_, by rw [h]; simp⟩
            rw [List.getD_eq_getElem?_getD, List.getElem?_eq_getElem (by have := hl.out; omega)]
            exact List.getElem_mem _
          rw [this, Bool.and_false])
        rw [hal.out, Bool.true_and] at hs
        generalize F.getD i 0 = x at *
        generalize hcs : bumpF (zerosF 16) (F.take i) = cs at *
        by_cases h0 : x < 0
        · have e := hbad (by simp [okLen]; omega)
          clear hs hbad hbt hbb
          go_wp2_with (first
            | (refine wpList_load16 rfl _ rfl rfl hbl H ?_)
            | (refine wpList_store16 rfl _ _ rfl rfl hzl hbl H.swap rfl ?_; clear H; intro w2 H))
          refine bodyPost_ret (results_cell2 rfl _ _ rb _ _ _ _ rfl H.block.1 Try.underlying107 rfl (arrInfo _ hbl)) rfl ?_
          exact ⟨_, rfl, ⟨_, hbl, by rw [e.out]; rfl, fun h => by rw [e.out] at h; cases h⟩, H.bare⟩
        · by_cases h15 : 15 < x
          · have e := hbad (by simp [okLen]; omega)
            clear hs hbad hbt hbb
            go_wp2_with (first
              | (refine wpList_load16 rfl _ rfl rfl hbl H ?_)
              | (refine wpList_store16 rfl _ _ rfl rfl hzl hbl H.swap rfl ?_; clear H; intro w2 H))
            refine bodyPost_ret (results_cell2 rfl _ _ rb _ _ _ _ rfl H.block.1 Try.underlying107 rfl (arrInfo _ hbl)) rfl ?_
            exact ⟨_, rfl, ⟨_, hbl, by rw [e.out]; rfl, fun h => by rw [e.out] at h; cases h⟩, H.bare⟩
          · have e : Hid ((F.take (i + 1)).all okLen = true) := Lib.hid (by rw [hs]; simp [okLen]; omega)
            obtain ⟨m, rfl⟩ : ∃ m : Nat, x = m := ⟨x.toNat, by omega⟩
            have hb1 := hbb m
            have c0 := H.cells m
            rw [arr_get (by omega)] at c0
            have hst : (nums cs).toArray.setIfInBounds m (.int .i64 (cs.getD m 0 + 1)) = (nums (bump1 cs m)).toArray := arr_set _ _ _
            obtain ⟨y, hy⟩ : ∃ y, Hid (cs.getD m 0 = y) := ⟨_, rfl⟩
            rw [hy.out] at c0 hst hb1
            have hyw : IntKind.i64.wrap (y + 1) = y + 1 := IntWalk.i64_in _ ⟨by omega, by omega⟩
            have hmI : (m : Int) < 16 := by omega
            have HST := Lib.hid hst
            have HBT := Lib.hid hbt
            have hfit : m < (nums cs).toArray.size := by rw [List.size_toArray, nums_length]; omega
            clear hs hbad hbt hbb hst hb1
            go_wp2_with (refine wpList_store_int rfl _ _ rfl rfl H rfl (by kernel_rfl) hfit ?_; clear H c0; intro w2 H; rw [HST.out] at H)
            go_roundw
            case rel => exact ⟨i + 1, by go_num, by omega, e, by rw [HBT.out]; exact H⟩
            case measure => simp [intOf]; omega
      · obtain rfl : i = n := by omega
        have hI2 : ¬ (i : Int) < (i : Int) := by omega
        have e : Hid (Z = true) := Lib.hid (by
          rw [← hZ.out]; unfold mayF
          have h1 := hal.out
          rw [List.take_of_length_le (by have := hl.out; omega)] at h1
          rw [h1, Bool.and_true, hl.out]
          simp; omega)
        have hst : (nums (bumpF (zerosF 16) (F.take i))).toArray.setIfInBounds 0 (.int .i64 0) = (nums (countsF F)).toArray := by
          rw [arr_set, List.take_of_length_le (by have := hl.out; omega)]; rfl
        have hcl : (countsF F).length = 16 := by unfold countsF; rw [List.length_set, bumpF_length]; exact hzl
        have HST := Lib.hid hst
        have hfit : 0 < (nums (bumpF (zerosF 16) (F.take i))).toArray.size := by rw [List.size_toArray, nums_length]; omega
        clear hst
        go_wp2_with (first
          | (refine wpList_load16 rfl _ rfl rfl hcl H ?_)
          | (refine wpList_store_int rfl _ _ rfl rfl H rfl (by kernel_rfl) hfit ?_; clear H; intro w2 H; rw [HST.out] at H)
          | (refine wpList_store16 rfl _ _ rfl rfl hzl hcl H.swap rfl ?_; clear H; intro w2 H))
        refine bodyPost_ret (results_cell2 rfl _ _ rb _ _ _ _ rfl H.block.1 Try.underlying107 rfl (arrInfo _ hcl)) rfl ?_
        exact ⟨_, rfl, ⟨_, hcl, by rw [e.out]; rfl, fun _ => rfl⟩, H.bare⟩


set_option maxHeartbeats 1600000 in
theorem left_any {w : World} {cs : List Int} (hl : cs.length = 16) (hb : ∀ k, 0 ≤ cs.getD k 0 ∧ cs.getD k 0 ≤ 1000000) :
    Calls Try.prog 66 #[.agg (nums cs).toArray] w (Ret fun r w' => r = .int .i64 (leftF cs) ∧ Own w w' []) := by
  obtain ⟨Z, hZ⟩ : ∃ Z, Hid (leftF cs = Z) := ⟨_, rfl⟩
  rw [hZ.out]
  have HB := Lib.hid hb
  have H := (Own.start w).alloc (.cells (nums cs).toArray 107)
  clear hb
  go_enter Try.func66, Try.ntmps66
  go_upto_region 2 with (fail)
  generalize w.alloc (.cells (nums cs).toArray 107) = wa at *
  generalize w.heap.size = b at *
  go_wp2_with fail
  go_loopw [3, 8] (fun s3 s8 wx => ∃ (j : Nat) (n : Int), s8 = .int .i64 j ∧ j ≤ 15 ∧ s3 = .int .i64 n ∧ 0 ≤ n ∧ Hid (n ≤ ((2 ^ j : Nat) : Int)) ∧ Hid (leftL n (cs.drop (1 + j)) = Z) ∧ Own w wx [blk b (.cells (nums cs).toArray 107)]) (fun _ s8 _ => 15 - (intOf s8).toNat)
  case atStart => exact ⟨0, 1, by go_num, by omega, by go_num, by omega, Lib.hid (by simp), Lib.hid hZ.out, H⟩
  case round =>
    clear H
    obtain ⟨j, n, rfl, hj, rfl, hn, hn2, hlf, H⟩ := hrel
    have hn3 : n ≤ 32768 := by
      have h1 := hn2.out
      have h2 : (2 ^ j : Nat) ≤ 2 ^ 15 := Nat.pow_le_pow_right (by omega) hj
      omega
    by_cases hlt : j < 15
    · have hI : (j : Int) < 15 := by omega
      have c0 := H.cells (1 + j)
      rw [arr_get (by omega)] at c0
      have hk := HB.out (1 + j)
      have hd : cs.drop (1 + j) = cs.getD (1 + j) 0 :: cs.drop (1 + (j + 1)) := by
        rw [List.drop_eq_getElem_cons (by omega), List.getD_eq_getElem?_getD, List.getElem?_eq_getElem (by omega)]
        rfl
      have hlf2 := hlf.out
      rw [hd, leftL] at hlf2
      generalize cs.getD (1 + j) 0 = k at *
      have hw1 : IntKind.i64.wrap (2 * n) = 2 * n := IntWalk.i64_in _ ⟨by omega, by omega⟩
      have hw2 : IntKind.i64.wrap (2 * n - k) = 2 * n - k := IntWalk.i64_in _ ⟨by omega, by omega⟩
      by_cases hneg : 2 * n - k < 0
      · rw [if_pos hneg] at hlf2
        have e := Lib.hid hlf2.symm
        clear hlf2 hd hlf
        go_wp2_with fail
        go_ret
        exact ⟨_, rfl, by rw [e.out]; rfl, H.bare⟩
      · rw [if_neg hneg] at hlf2
        have e := Lib.hid hlf2
        have hp : Hid (2 * n - k ≤ ((2 ^ (j + 1) : Nat) : Int)) := Lib.hid (by
          have := hn2.out
          rw [Nat.pow_succ]
          omega)
        clear hlf2 hd hlf hn2
        go_wp2_with fail
        go_roundw
        case rel => exact ⟨j + 1, 2 * n - k, by go_num, by omega, by go_num, by omega, hp, e, H⟩
        case measure => simp [intOf]; omega
    · obtain rfl : j = 15 := by omega
      have e : Hid (n = Z) := Lib.hid (by
        have := hlf.out
        rw [List.drop_eq_nil_of_le (by omega)] at this
        exact this)
      clear hlf
      go_wp2_with fail
      go_ret
      exact ⟨_, rfl, by rw [← e.out]; rfl, H.bare⟩
end Go.Proofs.Ytljejkdkjnbmhaa
/- huff: the walk of Codes. -/
namespace Go.Proofs.Ytljejkdkjnbmhaa
open Go.RowKit


set_option maxRecDepth 100000 in
set_option maxHeartbeats 6400000 in
theorem codes_any {w : World} {v : Value} {n : Nat} {F : List Int} (hr : Rd w 1 v n (nums F)) (hn : n ≤ 1000000) :
    Calls Try.prog 55 #[v] w (Ret fun r w' => ∃ ov, r = .tuple #[ov, .int .i64 (cerrF F)] ∧ Own w w' [slc 3 1 ov (cresF F).length (nums (cresF F))]) := by
  have hl := Lib.hid (rd_len hr)
  obtain ⟨a, c, rfl, hc1, hc2⟩ := hr.shape
  have HR := Lib.hid hr
  obtain ⟨er, her⟩ : ∃ er, Hid (cerrF F = er) := ⟨_, rfl⟩
  obtain ⟨R, hRes⟩ : ∃ R, Hid (cresF F = R) := ⟨_, rfl⟩
  rw [her.out, hRes.out]
  obtain ⟨RL, hRL⟩ : ∃ RL, Hid (R.length = RL) := ⟨_, rfl⟩
  rw [hRL.out]
  obtain ⟨Z, hZ⟩ : ∃ Z, Hid (mayF F = Z) := ⟨_, rfl⟩
  have HC := Lib.hid (counts_any hr hn)
  rw [hZ.out] at HC
  clear hr
  have hnil : er ≠ 0 → R = [] ∧ RL = 0 := fun h => by
    have : R = [] := by rw [← hRes.out]; unfold cresF; rw [her.out, if_neg h]
    exact ⟨this, by rw [← hRL.out, this]; rfl⟩
  have HNIL := Lib.hid hnil
  clear hnil
  have hzl : (zerosF 16).length = 16 := by simp [zerosF]
  go_enter Try.func55, Try.ntmps55
  go_wp2_with fail
  refine HC.out.mono ?_
  rintro e w1 ⟨_, rfl, ⟨cs, hcs, rfl, hcs2⟩, H1⟩
  have HCS := Lib.hid hcs2
  have H := H1.alloc (.cells (nums (zerosF 16)).toArray 107)
  rw [arr_zero] at H
  clear hcs2 HC H1
  go_upto_region 2 with (first
    | (generalize w1.alloc _ = wa at *; rw [← arr_zero] at H; generalize w1.heap.size = cb at *; refine wpList_store16 rfl _ _ rfl rfl hzl hcs H rfl ?_; clear H; intro w2 H))
  cases Z with
  | false =>
    have e1 : Hid (er = 1) := Lib.hid (by rw [← her.out]; unfold cerrF; rw [hZ.out]; rfl)
    obtain ⟨e2, e3⟩ := HNIL.out (by rw [e1.out]; decide)
    subst e3
    have E2 := Lib.hid e2
    clear e2
    go_wp2_with fail
    go_ret2
    refine ⟨_, rfl, _, by rw [e1.out]; rfl, ?_⟩
    rw [E2.out]
    exact H.bare.nil 3 1
  | true =>
    have hm := mayF_len hZ.out
    have hcs2 := HCS.out rfl
    subst hcs2
    have hF := hm.2
    have hn3 : n ≤ 320 := by have := hm.1; have := hl.out; omega
    have hlw := left_law hF
    have hcb : ∀ k, 0 ≤ (countsF F).getD k 0 ∧ (countsF F).getD k 0 ≤ 1000000 := by
      intro k
      rcases Nat.lt_or_ge k 16 with h | h
      · rw [counts_get hF k h]
        unfold cntC
        split
        · omega
        · have := cntL_le F k; have := hl.out; omega
      · rw [List.getD_eq_getElem?_getD, List.getElem?_eq_none (by rw [counts_length]; exact h)]; simp
    have HL := Lib.hid (fun w => left_any (w := w) hcs hcb)
    have HF := Lib.hid hF
    have HCB := Lib.hid hcb
    clear hm hF hcb
    by_cases hw : sumF wtF F ≤ 2 ^ 15
    · rw [if_pos hw] at hlw
      have e1 : Hid (er = 0) := Lib.hid (by rw [← her.out]; unfold cerrF; rw [hZ.out, if_pos rfl, if_pos hw])
      have e2 : Hid (codesF F = R) := Lib.hid (by rw [← hRes.out]; unfold cresF; rw [her.out, e1.out]; rfl)
      have HW := Lib.hid hw
      obtain ⟨lf, hlf⟩ : ∃ lf, Hid (leftF (countsF F) = lf) := ⟨_, rfl⟩
      rw [hlf.out] at hlw HL
      have hlf0 : ¬ lf < 0 := by omega
      have hRl : n = RL := by rw [← hRL.out, ← e2.out, codesF_length]; exact hl.out.symm
      subst hRl
      clear hw hlw
      go_wp2_with (refine wpList_load16 rfl _ rfl rfl hcs H ?_)
      refine (HL.out _).mono ?_
      rintro e w3 ⟨_, rfl, rfl, H1⟩
      have H := H.join H1
      clear H1
      have H := H.alloc (.cells (nums (zerosF 16)).toArray 107)
      rw [arr_zero] at H
      go_upto_region 7 with (fail)
      generalize w3.alloc _ = wa at *
      rw [← arr_zero] at H
      generalize w3.heap.size = nb at *
      go_wp2_with fail
      go_loopw [7] (fun s7 wx => ∃ (k : Nat) (nx : List Int), s7 = .int .i64 k ∧ 1 ≤ k ∧ k ≤ 15 ∧ Hid (nx.length = 16) ∧ Hid (∀ j, j ≤ k → nx.getD j 0 = lowF F j) ∧ Own w wx (blk nb (.cells (nums nx).toArray 107) :: blk cb (.cells (nums (countsF F)).toArray 107) :: [])) (fun s7 _ => 15 - (intOf s7).toNat)
      case atStart => exact ⟨1, zerosF 16, by go_num, by omega, by omega, Lib.hid hzl, Lib.hid (fun j h => by
        rw [zeros_get]
        rcases (by omega : j = 0 ∨ j = 1) with rfl | rfl
        · rw [lowF_zero]
        · rw [lowF_succ, lowF_zero]; rfl), H⟩
      case round =>
        clear H
        obtain ⟨k, nx, rfl, hk1, hk2, hnl, hnx, H⟩ := hrel
        have hcl := counts_length F
        by_cases hlt : k < 15
        · have hkI : (k : Int) < 15 := by omega
          have hk16 : (k : Int) < 16 := by omega
          have hk17 : (k : Int) + 1 < 16 := by omega
          have hkw : IntKind.i64.wrap ((k : Int) + 1) = (k : Int) + 1 := IntWalk.i64_in _ ⟨by omega, by omega⟩
          have hfit : k + 1 < (nums nx).toArray.size := by rw [List.size_toArray, nums_length]; have := hnl.out; omega
          have g0 : ∀ (ps' : List Piece) (w' : World), Own w w' (blk nb (.cells (nums nx).toArray 107) :: blk cb (.cells (nums (countsF F)).toArray 107) :: ps') → w'.cell? ⟨nb, k, none⟩ = some (.int .i64 (lowF F k)) ∧ w'.cell? ⟨cb, k, none⟩ = some (.int .i64 (cntC F k)) := fun ps' w' h => by
            constructor
            · rw [h.cells, arr_get (by have := hnl.out; omega), hnx.out k (Nat.le_refl _)]
            · rw [h.swap.cells, arr_get (by omega), counts_get HF.out k (by omega)]
          have G0 := Lib.hid g0
          have hlow := lowF_succ F k
          have hroom := low_room HF.out HW.out (k + 1) (by omega)
          have hpk : (2 : Int) ^ (k + 1) ≤ 32768 := by
            have : (2 : Nat) ^ (k + 1) ≤ 2 ^ 15 := Nat.pow_le_pow_right (by omega) (by omega)
            have h2 : ((2 ^ (k + 1) : Nat) : Int) ≤ ((2 ^ 15 : Nat) : Int) := Int.ofNat_le.2 this
            simpa using h2
          have b1 := lowF_nonneg F k
          have b2 := cntC_nonneg F k
          have b3 := cntC_nonneg F (k + 1)
          have hst := arr_set nx (k + 1) (lowF F (k + 1))
          have hnx2 : Hid (∀ j, j ≤ k + 1 → (nx.set (k + 1) (lowF F (k + 1))).getD j 0 = lowF F j) := Lib.hid (fun j hj => by
            rw [List.getD_eq_getElem?_getD, List.getElem?_set]
            by_cases h : k + 1 = j
            · subst h; rw [if_pos rfl, if_pos (by have := hnl.out; omega)]; rfl
            · rw [if_neg h, ← List.getD_eq_getElem?_getD]; exact hnx.out j (by omega))
          have hnl2 : Hid ((nx.set (k + 1) (lowF F (k + 1))).length = 16) := Lib.hid (by rw [List.length_set]; exact hnl.out)
          generalize lowF F (k + 1) = y2 at *
          generalize lowF F k = y at *
          generalize cntC F k = z at *
          generalize cntC F (k + 1) = z2 at *
          generalize (2 : Int) ^ (k + 1) = pw at *
          generalize hnx' : nx.set (k + 1) y2 = nx2 at *
          have HST := Lib.hid hst
          clear hst hnx' hnx g0
          have hs1 : IntKind.i64.wrap (y + z) = y + z := IntWalk.i64_in _ ⟨by omega, by omega⟩
          have hs2 : IntKind.i64.wrap ((y + z) * 2) = y2 := by rw [hlow, Int.mul_comm]; exact IntWalk.i64_in _ ⟨by omega, by omega⟩
          have HLOW := Lib.hid hlow
          clear hlow hroom
          go_upto_region 10 with (fail)
          refine wp_region_calm (fun w1 => Own w w1 (blk nb (.cells (nums nx).toArray 107) :: blk cb (.cells (nums (countsF F)).toArray 107) :: [])) 10 (by kernel_rfl) (by kernel_rfl) H.drew ?_
          simp only [List.take_succ_cons, List.take_zero, List.drop_succ_cons, List.drop_zero]
          repeat
            first
            | (refine calm_value (v := ?_) (by decide) rfl (fun σ w1 hS => ?_) ?_
               rotate_left
               · obtain ⟨c0, c1⟩ := G0.out _ _ hS
                 first | (go_simp; rfl) | rfl
               simp only [Act.put, List.setIfInBounds_toArray, List.set_cons_zero, List.set_cons_succ])
            | (refine calm_skip (by decide) rfl ?_
               simp only [Act.put, List.setIfInBounds_toArray, List.set_cons_zero, List.set_cons_succ])
          refine calm_nil ?_
          intro wd HD
          clear H
          go_wp2_with (refine wpList_store_int rfl _ _ rfl rfl HD rfl (by kernel_rfl) hfit ?_; clear HD; intro w4 H; rw [HST.out] at H)
          go_roundw
          case rel => exact ⟨k + 1, nx2, by go_num, by omega, by omega, hnl2, hnx2, H⟩
          case measure => simp [intOf]; omega
        · have hkI : ¬ (k : Int) < 15 := by omega
          have hk15 : Hid (15 ≤ k) := Lib.hid (by omega)
          have hmk : ∀ w : World, (Instr.makeSlice 30 (.int .i64 n) (.int .i64 n)).run Try.prog w = .ok (.slice (some ⟨w.heap.size, 0, none⟩) n n) (w.alloc (.cells (madeCells #[.int .i64 0] n) 3)) := run_make_row' _ _ _ 8 Try.underlying30 intInfo rfl .i64 .i64 n (by omega) (by omega)
          go_upto_region 12 with (fail)
          clear hmk
          have H := (H.alloc (.cells (madeCells #[.int .i64 0] n) 3)).slc_mk (xs := nums (zerosF n)) (n := n) (size := 1) (by simp [nums, zerosF]) (Nat.le_refl _) (by simp [maxLen]; omega) (by simp [size_madeCells]) (by rw [toList_madeCells_one]; simp [nums, zerosF])
          generalize World.alloc _ (.cells (madeCells #[.int .i64 0] n) 3) = wb at *
          generalize wr.heap.size = og at *
          go_wp2_with fail
          go_loopw [43] (fun s43 wx => ∃ (i : Nat) (ny o : List Int), s43 = .int .i64 i ∧ i ≤ n ∧ Hid (ny.length = 16) ∧ Hid (o.length = n) ∧ Hid (∀ j : Nat, 1 ≤ j → j ≤ 15 → ny.getD j 0 = lowF F j + cntL (F.take i) j) ∧ Hid (∀ s, o.getD s 0 = if s < i then codeF F s else 0) ∧ Own w wx (slc 3 1 (.slice (some ⟨og, 0, none⟩) n n) n (nums o) :: blk nb (.cells (nums ny).toArray 107) :: blk cb (.cells (nums (countsF F)).toArray 107) :: [])) (fun s43 _ => n - (intOf s43).toNat)
          case atStart => exact ⟨0, nx, zerosF n, by go_num, by omega, hnl, Lib.hid (by simp [zerosF]), Lib.hid (fun j h1 h2 => by rw [hnx.out j (by have := hk15.out; omega)]; simp [cntL]), Lib.hid (fun s => by rw [zeros_get, if_neg (by omega)]), H⟩
          case round =>
            clear H hnx hnl
            obtain ⟨i, ny, o, rfl, hi, hnl, hol, hny, ho, H⟩ := hrel
            by_cases hlt : i < n
            · have hI : (i : Int) < (n : Int) := by omega
              obtain ⟨b, oo, rfl, c1⟩ := rd_at HR.out H hlt
              have hx := HF.out (F.getD i 0) (by
                rw [List.getD_eq_getElem?_getD, List.getElem?_eq_getElem (by have := hl.out; omega)]
                exact List.getElem_mem _)
              have hil : i < F.length := by have := hl.out; omega
              by_cases hpos : 0 < F.getD i 0
              · have hcode : codeF F i = lowF F (F.getD i 0).toNat + cntL (F.take i) (F.getD i 0).toNat := by unfold codeF; rw [if_pos hpos]
                obtain ⟨m, hm⟩ : ∃ m : Nat, F.getD i 0 = m := ⟨(F.getD i 0).toNat, by omega⟩
                have hm1 : 1 ≤ m := by omega
                have hm2 : m ≤ 15 := by omega
                have hlt2 := code_lt hil hpos
                have hroom := low_room HF.out HW.out m hm2
                have hpk : (2 : Int) ^ m ≤ 32768 := by
                  have : (2 : Nat) ^ m ≤ 2 ^ 15 := Nat.pow_le_pow_right (by omega) (by omega)
                  have h2 : ((2 ^ m : Nat) : Int) ≤ ((2 ^ 15 : Nat) : Int) := Int.ofNat_le.2 this
                  simpa using h2
                have hcn := code_nonneg (l := F) i
                rw [hm] at hcode hpos hx c1 hlt2
                rw [Int.toNat_natCast] at hcode hlt2
                have hnyv : ny.getD m 0 = codeF F i := by rw [hny.out m hm1 hm2, hcode]
                have g0 := H.swap.cells m
                rw [arr_get (by have := hnl.out; omega), hnyv] at g0
                have ho2 : Hid (∀ s, (o.set i (codeF F i)).getD s 0 = if s < i + 1 then codeF F s else 0) := Lib.hid (fun s => by
                  rw [List.getD_eq_getElem?_getD, List.getElem?_set]
                  by_cases h : i = s
                  · subst h; rw [if_pos rfl, if_pos (by have := hol.out; omega), if_pos (by omega)]; rfl
                  · rw [if_neg h, ← List.getD_eq_getElem?_getD, ho.out s]
                    by_cases h2 : s < i
                    · rw [if_pos h2, if_pos (by omega)]
                    · rw [if_neg h2, if_neg (by omega)])
                have hny2 : Hid (∀ j : Nat, 1 ≤ j → j ≤ 15 → (ny.set m (codeF F i + 1)).getD j 0 = lowF F j + cntL (F.take (i + 1)) j) := Lib.hid (fun j h1 h2 => by
                  rw [cntL_take_succ hil, hm, List.getD_eq_getElem?_getD, List.getElem?_set]
                  by_cases h : m = j
                  · subst h; rw [if_pos rfl, if_pos (by have := hnl.out; omega), if_pos rfl, hcode]; simp; omega
                  · rw [if_neg h, if_neg (by omega), ← List.getD_eq_getElem?_getD, hny.out j h1 h2]; simp)
                have hol2 : Hid ((o.set i (codeF F i)).length = n) := Lib.hid (by rw [List.length_set]; exact hol.out)
                have hnl2 : Hid ((ny.set m (codeF F i + 1)).length = 16) := Lib.hid (by rw [List.length_set]; exact hnl.out)
                have hst1 : (nums o).set i (.int .i64 (codeF F i)) = nums (o.set i (codeF F i)) := nums_set _ _ _
                have hst2 := arr_set ny m (codeF F i + 1)
                have hfit : m < (nums ny).toArray.size := by rw [List.size_toArray, nums_length]; have := hnl.out; omega
                have hy1 : codeF F i ≤ 32768 := by
                  have : cntC F m = cntL F m := by unfold cntC; rw [if_neg (by omega)]
                  omega
                have HNY := Lib.hid hnyv
                clear hcode hlt2 hroom hpk hnyv hm
                generalize codeF F i = y at *
                have HST1 := Lib.hid hst1
                have HST2 := Lib.hid hst2
                have hyw : IntKind.i64.wrap (y + 1) = y + 1 := IntWalk.i64_in _ ⟨by omega, by omega⟩
                have hmI : (m : Int) < 16 := by omega
                clear hst1 hst2 hny ho hil
                go_wp2_with (first
                  | (refine wpList_store_slc rfl _ _ rfl rfl H (.int .i64 y) rfl (by kernel_rfl) (by omega) rfl ?_; clear H c1 g0; intro w5 H; rw [HST1.out] at H; have g0 := H.swap.cells m; rw [arr_get (by have := hnl.out; omega), HNY.out] at g0)
                  | (refine wpList_store_int rfl _ _ rfl rfl H.swap rfl (by kernel_rfl) hfit ?_; clear H g0; intro w6 H; rw [HST2.out] at H; replace H := H.swap))
                go_roundw
                case rel => exact ⟨i + 1, _, _, by go_num, by omega, hnl2, hol2, hny2, ho2, H⟩
                case measure => simp [intOf]; omega
              · have hcode : codeF F i = 0 := by unfold codeF; rw [if_neg hpos]
                have ho2 : Hid (∀ s, o.getD s 0 = if s < i + 1 then codeF F s else 0) := Lib.hid (fun s => by
                  rw [ho.out s]
                  by_cases h2 : s < i
                  · rw [if_pos h2, if_pos (by omega)]
                  · rw [if_neg h2]
                    by_cases h3 : s = i
                    · subst h3; rw [if_pos (by omega), hcode]
                    · rw [if_neg (by omega)])
                have hny2 : Hid (∀ j : Nat, 1 ≤ j → j ≤ 15 → ny.getD j 0 = lowF F j + cntL (F.take (i + 1)) j) := Lib.hid (fun j h1 h2 => by
                  rw [cntL_take_succ hil, if_neg (by omega), hny.out j h1 h2]; simp)
                generalize F.getD i 0 = x at *
                clear hcode hny ho hil
                go_wp2_with fail
                go_roundw
                case rel => exact ⟨i + 1, ny, o, by go_num, by omega, hnl, hol, hny2, ho2, H⟩
                case measure => simp [intOf]; omega
            · obtain rfl : i = n := by omega
              have hI : ¬ (i : Int) < (i : Int) := by omega
              have e3 : Hid (o = R) := Lib.hid (by
                rw [← e2.out]
                refine List.ext_getElem (by rw [hol.out, codesF_length, hl.out]) fun s h1 h2 => ?_
                have h3 := ho.out s
                rw [if_pos (by have := hol.out; omega), List.getD_eq_getElem?_getD, List.getElem?_eq_getElem h1] at h3
                have h4 := codesF_get (l := F) (s := s) (by have := hol.out; have := hl.out; omega)
                rw [List.getD_eq_getElem?_getD, List.getElem?_eq_getElem h2] at h4
                exact h3.trans h4.symm)
              clear ho hny
              go_wp2_with fail
              go_ret2
              refine ⟨_, rfl, _, by rw [e1.out]; rfl, ?_⟩
              rw [← e3.out]
              exact ((((H.front 2 rfl).front 2 rfl).drop.drop))
    · rw [if_neg hw] at hlw
      have e1 : Hid (er = 2) := Lib.hid (by rw [← her.out]; unfold cerrF; rw [hZ.out, if_pos rfl, if_neg hw])
      obtain ⟨e2, e3⟩ := HNIL.out (by rw [e1.out]; decide)
      subst e3
      have E2 := Lib.hid e2
      obtain ⟨lf, hlf⟩ : ∃ lf, Hid (leftF (countsF F) = lf) := ⟨_, rfl⟩
      rw [hlf.out] at hlw HL
      have hlf0 : lf < 0 := by omega
      clear e2 hw hlw
      go_wp2_with (refine wpList_load16 rfl _ rfl rfl hcs H ?_)
      refine (HL.out _).mono ?_
      rintro e w3 ⟨_, rfl, rfl, H1⟩
      have H := H.join H1
      clear H1
      go_wp2_with fail
      go_ret2
      refine ⟨_, rfl, _, by rw [e1.out]; rfl, ?_⟩
      rw [E2.out]
      exact H.bare.nil 3 1
end Go.Proofs.Ytljejkdkjnbmhaa
/- huff: the walk of New. -/
namespace Go.Proofs.Ytljejkdkjnbmhaa
open Go.RowKit

/-- A table of lengths. -/
def Tbl (g : Nat) (l : List Int) : Piece := ex fun v => star (blk g (.cells ((nums (countsF l)).toArray.push v) 109)) (slc 3 1 v (tsymsF l).length (nums (natI (tsymsF l))))


theorem build16 {cs : List Int} (h : cs.length = 16) (z : Value) :
    List.foldl (fun (cs : Array Value) (x : Value × Nat) => cs.setIfInBounds x.snd x.fst) #[.int .i64 0, .int .i64 0, .int .i64 0, .int .i64 0, .int .i64 0, .int .i64 0, .int .i64 0, .int .i64 0, .int .i64 0, .int .i64 0, .int .i64 0, .int .i64 0, .int .i64 0, .int .i64 0, .int .i64 0, .int .i64 0, z] (nums cs).zipIdx = (nums cs).toArray.push z := by
  match cs, h with
  | [c0, c1, c2, c3, c4, c5, c6, c7, c8, c9, c10, c11, c12, c13, c14, c15], _ => simp [nums, List.zipIdx]
theorem cells17 (cs : List Int) (z : Value) (h : cs.length = 16) (i : Nat) (hi : i < 16) : ((nums cs).toArray.push z)[i]? = some (.int .i64 (cs.getD i 0)) := by
  rw [Array.getElem?_push, if_neg (by rw [List.size_toArray, nums_length]; omega)]
  exact arr_get (by omega)
theorem cell16 (cs : List Int) (z : Value) (h : cs.length = 16) : ((nums cs).toArray.push z)[16]? = some z := by
  rw [Array.getElem?_push, if_pos (by rw [List.size_toArray, nums_length]; omega)]
theorem set16 (cs : List Int) (y z : Value) (h : cs.length = 16) : ((nums cs).toArray.push y).setIfInBounds 16 z = (nums cs).toArray.push z := by
  match cs, h with
  | [c0, c1, c2, c3, c4, c5, c6, c7, c8, c9, c10, c11, c12, c13, c14, c15], _ => simp [nums]

/-- A table's cells. -/
def tcells (F : List Int) (v : Value) : Array Value := (nums (countsF F)).toArray.push v

/-! ### how many are in use -/

set_option maxRecDepth 100000 in
set_option maxHeartbeats 6400000 in
theorem hnew_any {w : World} {v : Value} {n : Nat} {F : List Int} (hr : Rd w 1 v n (nums F)) (hn : n ≤ 1000000) :
    Calls Try.prog 48 #[v] w (Ret fun r w' => ∃ pv, r = .tuple #[pv, .int .i64 (terrF F)] ∧ (terrF F ≠ 0 → pv = .pointer none ∧ Own w w' []) ∧ (terrF F = 0 → ∃ g, pv = .pointer (some ⟨g, 0, none⟩) ∧ Own w w' [Tbl g F])) := by
  have hl := Lib.hid (rd_len hr)
  obtain ⟨a, c, rfl, hc1, hc2⟩ := hr.shape
  have HR := Lib.hid hr
  obtain ⟨er, her⟩ : ∃ er, Hid (terrF F = er) := ⟨_, rfl⟩
  rw [her.out]
  obtain ⟨Z, hZ⟩ : ∃ Z, Hid (mayF F = Z) := ⟨_, rfl⟩
  have HC := Lib.hid (counts_any hr hn)
  rw [hZ.out] at HC
  clear hr
  have hzl : (zerosF 16).length = 16 := by simp [zerosF]
  go_enter Try.func48, Try.ntmps48
  go_wp2_with fail
  refine HC.out.mono ?_
  rintro e w1 ⟨_, rfl, ⟨cs, hcs, rfl, hcs2⟩, H1⟩
  have HCS := Lib.hid hcs2
  have H := H1.alloc (.cells (nums (zerosF 16)).toArray 107)
  rw [arr_zero] at H
  clear hcs2 HC H1
  go_upto_region 2 with (first
    | (generalize w1.alloc _ = wa at *; rw [← arr_zero] at H; generalize w1.heap.size = cb at *; refine wpList_store16 rfl _ _ rfl rfl hzl hcs H rfl ?_; clear H; intro w2 H))
  cases Z with
  | false =>
    have e1 : Hid (er = 1) := Lib.hid (by rw [← her.out]; unfold terrF; rw [hZ.out]; rfl)
    go_wp2_with fail
    go_ret2
    refine ⟨_, rfl, _, by rw [e1.out]; rfl, fun _ => ⟨rfl, H.bare⟩, fun h => by rw [e1.out] at h; cases h⟩
  | true =>
    have hm := mayF_len hZ.out
    have hcs2 := HCS.out rfl
    subst hcs2
    have HF := Lib.hid hm.2
    have hn3 : n ≤ 320 := by have := hm.1; have := hl.out; omega
    clear hm HCS
    have hsz : (nums (countsF F)).length = 16 := by rw [nums_length]; exact hcs
    have hsz2 : (nums (countsF F)).toArray.size = 16 := by rw [List.size_toArray]; exact hsz
    go_upto_region 5 with (refine wpList_load16 rfl _ rfl rfl hcs H ?_)
    rw [build16 hcs]
    replace H := (H.alloc (.cells ((nums (countsF F)).toArray.push (.slice none 0 0)) 109)).swap.nil 3 1
    generalize w2.alloc (.cells ((nums (countsF F)).toArray.push (.slice none 0 0)) 109) = w3 at *
    generalize w2.heap.size = g at *
    have H : Own w w3 (blk g (.cells ((nums (countsF F)).toArray.push (.slice none 0 0)) 109) :: slc 3 1 (.slice none 0 0) 0 [] :: blk cb (.cells (nums (countsF F)).toArray 107) :: []) := ((H.front 2 rfl))
    clear hsz hsz2
    go_wp2_with fail
    go_loopw [7] (fun s7 wx => ∃ (k q : Nat) (v7 : Value), s7 = .int .i64 ((k : Int) + 1) ∧ k ≤ 15 ∧ Hid (q = lenT (tsymsN F k)) ∧ q ≤ n ∧ Own w wx (blk g (.cells (tcells F v7) 109) :: slc 3 1 v7 q (nums (natI (tsymsN F k))) :: blk cb (.cells (nums (countsF F)).toArray 107) :: [])) (fun s7 _ => 16 - (intOf s7).toNat)
    case atStart => exact ⟨0, 0, .slice none 0 0, by go_num, by omega, Lib.hid rfl, by omega, H⟩
    case round =>
      clear H
      obtain ⟨k, q, v7, rfl, hk, hq, hqn, H⟩ := hrel
      by_cases hlt : k < 15
      · have hkI : (k : Int) + 1 ≤ 15 := by omega
        have hkw : IntKind.i64.wrap ((k : Int) + 1 + 1) = (k : Int) + 1 + 1 := IntWalk.i64_in _ ⟨by omega, by omega⟩
        go_wp2_with fail
        go_loopw [28] (fun s28 wx => ∃ (j q : Nat) (v7 : Value), s28 = .int .i64 j ∧ j ≤ n ∧ Hid (q = lenT (partT F k j)) ∧ q ≤ n + j ∧ Own w wx (blk g (.cells (tcells F v7) 109) :: slc 3 1 v7 q (nums (natI (partT F k j))) :: blk cb (.cells (nums (countsF F)).toArray 107) :: [])) (fun s28 _ => n - (intOf s28).toNat)
        case atStart => exact ⟨0, q, v7, by go_num, by omega, Lib.hid (by rw [hq.out]; simp [partT, symsN]), by omega, by simpa [partT, symsN] using H⟩
        case round =>
          clear H hq hqn
          obtain ⟨j, q, v7, rfl, hj, hq, hqn, H⟩ := hrel
          obtain ⟨a7, c7, rfl, hv1, hv2⟩ := (H.front 1 rfl).rd.shape
          by_cases hjn : j < n
          · have hjI : (j : Int) < (n : Int) := by omega
            obtain ⟨b, oo, rfl, c1⟩ := rd_at HR.out H hjn
            have hs := symsN_succ (l := F) (k + 1) j
            obtain ⟨x, hx⟩ : ∃ x, F.getD j 0 = x := ⟨_, rfl⟩
            rw [hx] at c1 hs
            clear hx
            by_cases hxk : x = (k : Int) + 1
            · subst hxk
              rw [if_pos (by omega)] at hs
              have hxe : ((k : Int) + 1 == (k : Int) + 1) = true := by simp
              have c0 := H.cells 16
              unfold tcells at c0
              rw [cell16 _ _ hcs] at c0
              have HS : Hid (partT F k (j + 1) = partT F k j ++ [j]) := Lib.hid (by unfold partT; rw [hs, List.append_assoc])
              generalize partT F k j = TS at *
              have hq2 : Hid (q + 1 = lenT (partT F k (j + 1))) := Lib.hid (by rw [HS.out, hq.out]; unfold lenT; rw [List.length_append]; rfl)
              have hfit : 16 < (tcells F (.slice a7 q c7)).size := by unfold tcells; rw [Array.size_push, List.size_toArray, nums_length, hcs]; omega
              clear hs
              go_wp2_with (first
                | (at_builtin; refine wpList_append_one rfl _ _ rfl Try.underlying30 intInfo rfl (by decide) rfl (H.front 1 rfl) (news := [.int .i64 j]) rfl rfl rfl (by simp [Value.oneCell']) (by omega) (by omega) ?_; clear H c1 c0; intro v' w' H; rw [natI_snoc] at H; replace H := H.swap; obtain ⟨a8, c8, rfl, -⟩ := H.swap.rd.shape)
                | (refine wpList_store_slice rfl _ _ rfl rfl H rfl (by kernel_rfl) hfit ?_; clear H; intro w5 H; unfold tcells at H; rw [set16 _ _ _ hcs] at H))
              go_roundw
              case rel => exact ⟨_, _, _, ⟨j + 1, by go_num, by omega, q + 1, hq2, by omega, _, by rw [HS.out]; exact H⟩, rfl, rfl, rfl⟩
              case measure => simp [intOf]; omega
            · rw [if_neg (by omega)] at hs
              have hxe : (x == (k : Int) + 1) = false := by simpa using hxk
              have HS : Hid (partT F k (j + 1) = partT F k j) := Lib.hid (by unfold partT; rw [hs])
              clear hs hxk
              go_wp2_with fail
              go_roundw
              case rel => exact ⟨j + 1, q, _, by go_num, by omega, Lib.hid (by rw [HS.out]; exact hq.out), by omega, by rw [HS.out]; exact H⟩
              case measure => simp [intOf]; omega
          · obtain rfl : j = n := by omega
            have hjI : ¬ (j : Int) < (j : Int) := by omega
            have HS : Hid (partT F k j = tsymsN F (k + 1)) := Lib.hid (by unfold partT; rw [tsymsN]; unfold symsL; rw [hl.out])
            rw [HS.out] at H
            have hle := tsyms_len_le (fun x hx => (HF.out x hx).1) (k + 1)
            rw [hl.out] at hle
            have hq2 : Hid (q = lenT (tsymsN F (k + 1))) := Lib.hid (by rw [← HS.out]; exact hq.out)
            have hqj : q ≤ j := by rw [hq2.out]; exact hle
            clear hle hq hqn
            go_wp2_with fail
            go_roundw
            case rel => exact ⟨k + 1, q, _, by go_num, by omega, hq2, hqj, H⟩
            case measure => simp [intOf]; omega
      · have hkI : ¬ (k : Int) + 1 ≤ 15 := by omega
        obtain ⟨a7, c7, rfl, hv1, hv2⟩ := (H.front 1 rfl).rd.shape
        have hts : tsymsN F k = tsymsF F := by rw [show k = 15 by omega]; rfl
        rw [hts] at H
        have hqu : q = (usedF F).length := by rw [hq.out, hts]; unfold lenT; exact tsyms_used HF.out
        have hfw := few_weight F HF.out
        have hcnt : (F.countP fun x => decide (0 < x)) = q := by
          rw [hqu]; unfold usedF; rw [used_count F _ (Nat.le_refl _), List.take_length]
        rw [hcnt] at hfw
        have her2 : er = if sumF wtF F = 32768 ∨ q = 0 ∨ q = 1 ∧ sumF wtF F = 16384 then 0 else 2 := by rw [← her.out]; unfold terrF; rw [hZ.out, if_pos rfl, hqu]
        have hlf := left_law HF.out
        have hc1 : (countsF F).getD 1 0 = (cntL F 1 : Nat) := by rw [counts_get HF.out 1 (by omega)]; unfold cntC; rw [if_neg (by omega)]
        have hcb : ∀ k, 0 ≤ (countsF F).getD k 0 ∧ (countsF F).getD k 0 ≤ 1000000 := by
          intro k
          rcases Nat.lt_or_ge k 16 with h | h
          · rw [counts_get HF.out k h]
            unfold cntC
            split
            · omega
            · have := cntL_le F k; have := hl.out; omega
          · rw [List.getD_eq_getElem?_getD, List.getElem?_eq_none (by rw [counts_length]; exact h)]; simp
        have HL := Lib.hid (fun w => left_any (w := w) hcs hcb)
        have c0 := H.cells 16
        have c1 := (H.front 2 rfl).cells 1
        unfold tcells at c0
        rw [cell16 _ _ hcs] at c0
        rw [arr_get (by omega), hc1] at c1
        obtain ⟨lf, hlfE⟩ : ∃ lf, Hid (leftF (countsF F) = lf) := ⟨_, rfl⟩
        rw [hlfE.out] at HL hlf
        have hlf2 : lf = if sumF wtF F ≤ 32768 then 32768 - sumF wtF F else -1 := hlf
        clear hcnt hlf hcb hts
        have hql : q = (tsymsF F).length := by rw [hqu]; exact (tsyms_used HF.out).symm
        have fin : ∀ (wz : World), Own w wz (blk g (.cells (tcells F (.slice a7 q c7)) 109) :: slc 3 1 (.slice a7 q c7) q (nums (natI (tsymsF F))) :: blk cb (.cells (nums (countsF F)).toArray 107) :: []) → Own w wz [Tbl g F] := fun wz h => by
          have h2 : Own w wz [blk g (.cells (tcells F (.slice a7 q c7)) 109), slc 3 1 (.slice a7 q c7) q (nums (natI (tsymsF F)))] := (((h.front 2 rfl).drop))
          refine Own.unex (f := fun v => Go.Proofs.Ytljejkdkjnbmhaa.star (blk g (.cells ((nums (countsF F)).toArray.push v) 109)) (slc 3 1 v (tsymsF F).length (nums (natI (tsymsF F))))) (.slice a7 q c7) (Own.unstar ?_)
          rw [← hql]
          exact h2
        have FIN := Lib.hid fin
        clear fin hql hqu
        obtain ⟨cn, hcn⟩ : ∃ cn, cntL F 1 = cn := ⟨_, rfl⟩
        rw [hcn] at c1 hfw
        generalize sumF wtF F = wt at *
        clear hcn hc1
        have cases6 : (q = 0 ∧ ¬ lf < 0 ∧ 0 < lf ∧ er = 0) ∨ (q = 1 ∧ cn = 1 ∧ ¬ lf < 0 ∧ 0 < lf ∧ er = 0) ∨ (q = 1 ∧ cn ≠ 1 ∧ ¬ lf < 0 ∧ 0 < lf ∧ er = 2) ∨ (2 ≤ q ∧ lf < 0 ∧ er = 2) ∨ (2 ≤ q ∧ lf = 0 ∧ er = 0) ∨ (2 ≤ q ∧ ¬ lf < 0 ∧ 0 < lf ∧ er = 2) := by
          rw [her2, hlf2]
          clear her2 hlf2
          rcases (by omega : q = 0 ∨ q = 1 ∨ 2 ≤ q) with h0 | h0 | h0
          · left
            have := hfw.1 h0
            rw [if_pos (by omega), if_pos (.inr (.inl h0))]
            omega
          · have h1 := hfw.2 h0
            rw [if_pos (by omega)]
            by_cases h2 : cn = 1
            · have := h1.2.2 h2
              right; left
              rw [if_pos (.inr (.inr ⟨h0, this⟩))]
              omega
            · right; right; left
              have h3 : wt ≠ 16384 := fun h => h2 (h1.2.1 h)
              rw [if_neg (by omega)]
              omega
          · right; right; right
            by_cases h2 : wt ≤ 32768
            · rw [if_pos h2]
              by_cases h3 : wt = 32768
              · right; left
                rw [if_pos (.inl h3)]
                omega
              · right; right
                rw [if_neg (by omega)]
                omega
            · left
              rw [if_neg h2, if_neg (by omega)]
              omega
        clear hfw her2 hlf2 hq hqn
        rcases cases6 with ⟨h1, h2, h3, h4⟩ | ⟨h1, h5, h2, h3, h4⟩ | ⟨h1, h5, h2, h3, h4⟩ | ⟨h1, h2, h4⟩ | ⟨h1, h2, h4⟩ | ⟨h1, h2, h3, h4⟩
        case' inl => subst h1
        case' inr.inl =>
          subst h1 h5
          have g1 : ((1 : Int) == 0) = false := rfl
        case' inr.inr.inl =>
          subst h1
          have g1 : ((1 : Int) == 0) = false := rfl
          have g2 : ((cn : Int) == 1) = false := by simp; omega
        case' inr.inr.inr.inl =>
          have g1 : ((q : Int) == 0) = false := by simp; omega
          have g2 : ((q : Int) == 1) = false := by simp; omega
        case' inr.inr.inr.inr.inl =>
          subst h2
          have g1 : ((q : Int) == 0) = false := by simp; omega
          have g2 : ((q : Int) == 1) = false := by simp; omega
        case' inr.inr.inr.inr.inr =>
          have g1 : ((q : Int) == 0) = false := by simp; omega
          have g2 : ((q : Int) == 1) = false := by simp; omega
        all_goals
          have e4 := Lib.hid h4
          clear h4
          go_wp2_with (refine wpList_load16 rfl _ rfl rfl hcs (H.front 2 rfl) ?_)
          refine (HL.out _).mono ?_
          rintro e w4 ⟨_, rfl, rfl, H1⟩
          have H := H.join H1
          clear H1 c0 c1
          go_wp2_with fail
          go_ret2
          first
            | exact ⟨_, rfl, _, by rw [e4.out]; rfl, fun h => absurd e4.out h, fun _ => ⟨g, rfl, FIN.out _ H⟩⟩
            | exact ⟨_, rfl, _, by rw [e4.out]; rfl, fun _ => ⟨rfl, H.bare⟩, fun h => by rw [e4.out] at h; cases h⟩
end Go.Proofs.Ytljejkdkjnbmhaa
/- Bits: Reader.Left, Take. -/
namespace Go.Proofs.Ytljejkdkjnbmhaa
open Go.RowKit

/-- A reader of a text, n bits taken. -/
def Rdr (g : Nat) (s : ByteArray) (n : Nat) : Piece := blk g (.cells #[.string s, .int .i64 n] 57)
set_option maxHeartbeats 400000 in
theorem rdleft_any {w0 w : World} {ps : List Piece} {g : Nat} {s : ByteArray} {n : Nat} (H : Own w0 w (Rdr g s n :: ps)) (hs : s.size ≤ 281474976710656) (hn : n ≤ 2251799813685248) :
    Calls Try.prog 42 #[.pointer (some ⟨g, 0, none⟩)] w fun e w' => e = .returned (.int .i64 (8 * s.size - n)) ∧ Own w0 w' (Rdr g s n :: ps) := by
  unfold Rdr at H ⊢
  obtain ⟨z, hz⟩ : ∃ z, Hid (s.size = z) := ⟨_, rfl⟩
  have hz2 := hz.out
  rw [hz2] at hs ⊢
  have hw : IntKind.i64.wrap (8 * (z : Int)) = 8 * z := IntWalk.i64_in _ ⟨by omega, by omega⟩
  have hw2 : IntKind.i64.wrap (8 * (z : Int) - n) = 8 * z - n := IntWalk.i64_in _ ⟨by omega, by omega⟩
  go_enter Try.func42, Try.ntmps42
  go_upto_region 3 with (fail)
  refine wp_region_calm (fun w1 => Own w0 w1 (blk g (.cells #[.string s, .int .i64 n] 57) :: ps)) 11 (by kernel_rfl) (by kernel_rfl) H.drew ?_
  simp only [List.take_succ_cons, List.take_zero, List.drop_succ_cons, List.drop_zero]
  repeat
    refine calm_value (v := ?_) (by decide) rfl (fun σ w1 hS => ?_) ?_; rotate_left
    · have c0 := hS.cells
      first | (go_simp; rfl) | rfl
    simp only [Act.put, List.setIfInBounds_toArray, List.set_cons_zero, List.set_cons_succ]
  refine calm_nil ?_
  intro wd HD
  go_wp2
  go_ret
  exact ⟨rfl, HD⟩
set_option maxHeartbeats 800000 in
theorem take_yes {w0 w : World} {ps : List Piece} {g : Nat} {s : ByteArray} {n : Nat} (m : Nat) (H : Own w0 w (Rdr g s n :: ps)) (hs : s.size ≤ 281474976710656) (hm : m ≤ 62) (hn : n + m ≤ 8 * s.size) :
    Calls Try.prog 24 #[.pointer (some ⟨g, 0, none⟩), .int .i64 m] w (Ret fun v w' => v = .tuple #[.int .i64 (valOf (((textBits s).drop n).take m)), .bool true] ∧ Own w0 w' (Rdr g s (n + m) :: ps)) := by
  obtain ⟨z, hz⟩ : ∃ z, Hid (s.size = z) := ⟨_, rfl⟩
  have hz2 := hz.out
  rw [hz2] at hs hn
  clear hz2
  obtain ⟨bs, hbs⟩ : ∃ bs, Hid ((textBits s).drop n = bs) := ⟨_, rfl⟩
  rw [hbs.out]
  have hbl : Hid (bs.length = 8 * z - n) := Lib.hid (by rw [← hbs.out, List.length_drop, textBits_length, hz.out])
  go_enter Try.func24, Try.ntmps24
  go_wp2_with fail
  refine (rdleft_any H (by rw [hz.out]; exact hs) (by omega)).mono ?_
  rintro e w1 ⟨rfl, H1⟩
  rw [hz.out]
  clear H
  have hle : (m : Int) ≤ 8 * (z : Int) - n := by omega
  go_wp2_with fail
  go_loopw [6, 26] (fun x i wx => ∃ k : Nat, ∃ u : Int, k ≤ m ∧ i = .int .i64 k ∧ x = .int .i64 u ∧ Hid (u = valOf (bs.take k)) ∧ Own w0 wx (Rdr g s n :: ps)) (fun _ i _ => m - (intOf i).toNat)
  case atStart => exact ⟨0, 0, Nat.zero_le _, rfl, rfl, Lib.hid rfl, H1⟩
  case round =>
    clear H1
    obtain ⟨k, u, hk, rfl, rfl, hu, H⟩ := hrel
    unfold Rdr at H
    have c0 := H.cells
    by_cases hlt : k < m
    · obtain ⟨p, hp⟩ : ∃ p, Hid (n + k = p) := ⟨_, rfl⟩
      obtain ⟨r, hr⟩ : ∃ r, Hid (r = p % 8) := ⟨_, Lib.hid rfl⟩
      obtain ⟨q, hq⟩ : ∃ q, Hid (q = p / 8) := ⟨_, Lib.hid rfl⟩
      have hp8 : p < 8 * z := by have := hp.out; omega
      have hpi : (n : Int) + (k : Int) = (p : Int) := by have := hp.out; omega
      have hrt : (p : Int).tmod 8 = (r : Int) := by have := hr.out; rw [Int.tmod_eq_emod_of_nonneg (by omega)]; omega
      have hqt : (p : Int).tdiv 8 = (q : Int) := by have := hq.out; rw [Int.tdiv_eq_ediv_of_nonneg (by omega)]; omega
      have hrt' : (p : Int) % 8 = (r : Int) := by have := hr.out; omega
      have hqt' : (p : Int) / 8 = (q : Int) := by have := hq.out; omega
      have hr8 : r < 8 := by have := hr.out; omega
      have hqs : q < s.size := by have := hz.out; have := hq.out; omega
      obtain ⟨b, hb⟩ : ∃ b, Hid (bs[k]? = some b) := ⟨bs[k]'(by have := hbl.out; omega), Lib.hid (List.getElem?_eq_getElem _)⟩
      have hbb : Hid (bitOf ((s[q].toNat : Nat) : Int) r = b) := Lib.hid (by
        have h1 := textBits_get s hqs hr8
        have h2 := hb.out
        rw [← hbs.out, List.getElem?_drop] at h2
        have e : n + k = 8 * q + r := by have := hp.out; have := hq.out; have := hr.out; omega
        rw [e, h1] at h2
        exact Option.some.inj h2)
      have hx8 := s[q].toNat_lt
      have hand : bits .and .u8 ((s[q].toNat : Int) / 2 ^ r) 1 = bi b := by
        have h0 : (0 : Int) ≤ (s[q].toNat : Int) / 2 ^ r := Int.ediv_nonneg (by omega) (Int.le_of_lt (Int.pow_pos (by decide)))
        have h1 : (s[q].toNat : Int) / 2 ^ r ≤ (s[q].toNat : Int) := Int.ediv_le_self _ (by omega)
        rw [u8_and1 h0 (by omega), ← hbb.out, bi_bitOf]
      have hbd := bi_bd b
      obtain ⟨c, hc⟩ : ∃ c, Hid (bi b = c) := ⟨_, rfl⟩
      rw [hc.out] at hand hbd
      obtain ⟨hc0, hc1⟩ := hbd
      have hub := valOf_bd (bs.take k)
      rw [← hu.out, List.length_take_of_le (by have := hbl.out; omega)] at hub
      obtain ⟨hu0, hu1⟩ := hub
      have hor := or64 (show k ≤ 61 by omega) hu0 hu1 hc0 hc1
      go_wp2
      go_round
      case rel =>
        have hw : wrap64 (c * 2 ^ k) = c * 2 ^ k := by
          have hp : (2 : Int) ^ k ≤ 2 ^ 61 := pow2_le (by omega)
          have hp0 : (0 : Int) < 2 ^ k := Int.pow_pos (by decide)
          have h61 : (2 : Int) ^ 61 = 2305843009213693952 := by decide
          have : c = 0 ∨ c = 1 := by omega
          rcases this with rfl | rfl
          · exact IntWalk.wrap64_in _ ⟨by omega, by omega⟩
          · exact IntWalk.wrap64_in _ ⟨by omega, by omega⟩
        exact ⟨k + 1, u + 2 ^ k * c, by omega, by go_num, val_int (by rw [hw]; exact hor), Lib.hid (by
          rw [List.take_add_one, hb.out, Option.toList_some, valOf_snoc, ← hu.out, hc.out, List.length_take_of_le (by have := hbl.out; omega)]), H⟩
      case measure => simp [intOf]; omega
    · obtain rfl : k = m := by omega
      have hnk : Hid ((n : Int) + k = ((n + k : Nat) : Int)) := Lib.hid (by omega)
      go_wp2_with (refine wpList_store_int rfl _ _ rfl rfl H rfl (by kernel_rfl) (by simp) ?_; clear H c0; intro w3 H)
      go_ret2
      refine ⟨.tuple #[.int .i64 u, .bool true], rfl, by rw [hu.out], ?_⟩
      rw [hnk.out] at H
      simpa [Rdr] using H
set_option maxHeartbeats 800000 in
theorem take_no {w0 w : World} {ps : List Piece} {g : Nat} {s : ByteArray} {n : Nat} (m : Int) (hm1 : -9223372036854775808 ≤ m) (hm2 : m ≤ 9223372036854775807) (H : Own w0 w (Rdr g s n :: ps)) (hs : s.size ≤ 281474976710656) (hn : n ≤ 2251799813685248) (hno : m < 0 ∨ 62 < m ∨ 8 * (s.size : Int) - n < m) :
    Calls Try.prog 24 #[.pointer (some ⟨g, 0, none⟩), .int .i64 m] w (Ret fun v w' => v = .tuple #[.int .i64 0, .bool false] ∧ Own w0 w' (Rdr g s n :: ps)) := by
  obtain ⟨z, hz⟩ : ∃ z, Hid (s.size = z) := ⟨_, rfl⟩
  rw [hz.out] at hno
  go_enter Try.func24, Try.ntmps24
  by_cases h1 : m < 0
  · go_wp2
    go_ret2
    exact ⟨_, rfl, rfl, H⟩
  by_cases h2 : 62 < m
  · go_wp2
    go_ret2
    exact ⟨_, rfl, rfl, H⟩
  have h3 : 8 * (z : Int) - n < m := by omega
  clear hno
  go_wp2_with fail
  refine (rdleft_any H hs hn).mono ?_
  rintro e w1 ⟨rfl, H1⟩
  rw [hz.out]
  go_wp2
  go_ret2
  exact ⟨_, rfl, rfl, H1⟩
theorem take_any {w0 w : World} {ps : List Piece} {g : Nat} {s : ByteArray} {n : Nat} (m : Int) (hm : -9223372036854775808 ≤ m ∧ m ≤ 9223372036854775807) (H : Own w0 w (Rdr g s n :: ps)) (hs : s.size ≤ 1000000) (hn : n ≤ 8 * s.size) :
    Calls Try.prog 24 #[.pointer (some ⟨g, 0, none⟩), .int .i64 m] w (Ret fun v w' => v = .tuple #[.int .i64 (tkV s n m), .bool (decide (tkOk s n m))] ∧ Own w0 w' (Rdr g s (tkN s n m) :: ps)) := by
  by_cases h : tkOk s n m
  · have h' := h
    unfold tkOk at h'
    obtain ⟨k, rfl⟩ : ∃ k : Nat, m = k := ⟨m.toNat, by omega⟩
    have := take_yes k H (by omega) (by omega) (by omega)
    simpa [tkV, tkN, h] using this
  · have h' := h
    unfold tkOk at h'
    have := take_no m hm.1 hm.2 H (by omega) (by omega) (by omega)
    simpa [tkV, tkN, h] using this
end Go.Proofs.Ytljejkdkjnbmhaa
