/-
  Texts of this claim, one behind the other: Bits; Bits; Bits; lz; inflate; Bits; Bits; inflate; inflate; huff; huff; huff; huff; huff; huff; huff; huff; huff; inflate.
-/
import Derived.Test.YtnebacnmbigaaaaIe2
import Derived.Test.YtnebacnmbigaaaaRows
import Derived.WalkSpells
import Derived.WalkLawsBesides
import Derived.BigQuiet
import Derived.Deep.DeepCutAuto
import Derived.Deep.CutBlock
import Derived.Deep.LoopGhost
import Derived.Deep.QuietTactic
import Derived.Laws.ResultCell
import Derived.Deep.OwnRows
set_option linter.unusedVariables false
/- Bits: the writer's state; bit. (Picked out of others by tools/pick.py, as are all XBw, XBr.) -/
namespace Go.Proofs.Ytnebacnmbigaaaa
open Go.RowKit

def u8s (xs : List Int) : List Value := xs.map (.int .u8)
/-- A writer of these bits, behind the pointer ⟨g, 0⟩. -/
def Wtr (g : Nat) (bs : List Bool) : Piece := ex fun v => star (blk g (.cells #[v, .int .i64 bs.length] 34)) (slc 5 1 v (nbytes bs.length) (u8s (bytesOf bs)))
theorem Own.wtr {w0 w : World} {ps : List Piece} {g : Nat} {bs : List Bool} (H : Own w0 w (Wtr g bs :: ps)) :
    ∃ a c, nbytes bs.length ≤ c ∧ c ≤ 9223372036854775807 ∧ Own w0 w (blk g (.cells #[.slice a (nbytes bs.length) c, .int .i64 bs.length] 34) :: slc 5 1 (.slice a (nbytes bs.length) c) (nbytes bs.length) (u8s (bytesOf bs)) :: ps) := by
  obtain ⟨v, H⟩ := H.ex
  replace H := H.star
  obtain ⟨a, c, rfl, h1, h2⟩ := (H.front 1 rfl).rd.shape
  exact ⟨a, c, h1, h2, H⟩
theorem Own.unwtr {w0 w : World} {ps : List Piece} {g : Nat} {bs : List Bool} {v : Value} {n m : Nat} {xs : List Value} (H : Own w0 w (blk g (.cells #[v, .int .i64 n] 34) :: slc 5 1 v m xs :: ps)) (hn : n = bs.length) (hm : m = nbytes bs.length) (hx : xs = u8s (bytesOf bs)) : Own w0 w (Wtr g bs :: ps) := by
  subst hn hm hx
  exact H.unstar.unex v
set_option maxHeartbeats 400000 in
theorem bit_any {w0 w : World} {ps : List Piece} {g : Nat} {bs : List Bool} (b : Bool) (H : Own w0 w (Wtr g bs :: ps)) (hl : bs.length ≤ 35184372088832) :
    Calls Try.prog 38 #[.pointer (some ⟨g, 0, none⟩), .int .i64 (bi b)] w (Ret fun _ w' => Own w0 w' (Wtr g (bs ++ [b]) :: ps)) := by
  have hb := bi_bd b
  obtain ⟨c, hcc⟩ : ∃ c, Hid (bi b = c) := ⟨_, rfl⟩
  rw [hcc.out] at hb ⊢
  obtain ⟨hb0, hb1⟩ := hb
  obtain ⟨m, hm⟩ : ∃ m, Hid (bs.length = m) := ⟨_, rfl⟩
  have hlm := hl
  rw [hm.out] at hlm
  obtain ⟨a, cp, hc1, hc2, H⟩ := H.wtr
  rw [hm.out] at H hc1
  have c0 := H.cells
  go_enter Try.func38, Try.ntmps38
  obtain ⟨r, hr⟩ : ∃ r, Hid (r = m % 8) := ⟨_, Lib.hid rfl⟩
  obtain ⟨q, hq⟩ : ∃ q, Hid (q = m / 8) := ⟨_, Lib.hid rfl⟩
  have hrt : (m : Int).tmod 8 = (r : Int) := by have := hr.out; rw [Int.tmod_eq_emod_of_nonneg (by omega)]; omega
  have hqt : (m : Int).tdiv 8 = (q : Int) := by have := hq.out; rw [Int.tdiv_eq_ediv_of_nonneg (by omega)]; omega
  have hrt' : (m : Int) % 8 = (r : Int) := by have := hr.out; omega
  have hqt' : (m : Int) / 8 = (q : Int) := by have := hq.out; omega
  have hr8 : r < 8 := by have := hr.out; omega
  have hsn := Lib.hid (bytesOf_snoc bs b)
  go_upto_if 9 with (fail)
  go_cut [] (fun wx => ∃ a c N L, N = nbytes (m + 1) ∧ N ≤ c ∧ c ≤ 9223372036854775807 ∧ Hid (L = if bs.length % 8 = 0 then bytesOf bs ++ [0] else bytesOf bs) ∧ Own w0 wx (blk g (.cells #[.slice a N c, .int .i64 m] 34) :: slc 5 1 (.slice a N c) N (u8s L) :: ps))
  case first =>
    by_cases h0 : r = 0
    · subst h0
      go_wp2_with (first
        | (at_builtin; refine wpList_append_one rfl _ _ rfl Try.underlying32 u8Info rfl (by decide) rfl H.swap rfl rfl rfl (by simp [Value.oneCell']) (by unfold nbytes; omega) (by unfold nbytes; omega) ?_; clear H c0; intro v' w' H; replace H := H.swap)
        | (obtain ⟨a', c', rfl, h1', h2'⟩ := (H.front 1 rfl).rd.shape; refine wpList_store_slice rfl _ _ rfl rfl H rfl (by kernel_rfl) (by simp) ?_; clear H; intro w2 H))
      go_meet
      exact ⟨a', c', nbytes m + 1, bytesOf bs ++ [0], by have := hr.out; unfold nbytes; omega, h1', h2', Lib.hid (by rw [if_pos (by have := hr.out; rw [hm.out]; omega)]), by simpa [u8s] using H⟩
    · have h0' : ((r : Int) == 0) = false := by simpa using h0
      go_wp2
      go_meet
      exact ⟨a, cp, nbytes m, bytesOf bs, by have := hr.out; unfold nbytes; omega, hc1, hc2, Lib.hid (by rw [if_neg (by have := hr.out; rw [hm.out]; omega)]), H⟩
  case rest =>
    clear H c0
    obtain ⟨a, cp, N, L, hN, hc1, hc2, hL, H⟩ := hcut
    obtain ⟨k1, k2, k3⟩ := hsn.out L hL.out
    rw [hm.out] at k1 k2 k3
    rw [← hq.out] at k2 k3
    rw [← hr.out] at k3
    have hqN : q < N := by have := hq.out; unfold nbytes at hN; omega
    have hqN' : (q : Int) < (N : Int) := by omega
    replace hN := Lib.hid hN
    have hwq : IntKind.i64.wrap (q : Int) = q := IntWalk.i64_in _ ⟨by omega, by omega⟩
    have hwr : IntKind.i64.wrap (r : Int) = r := IntWalk.i64_in _ ⟨by omega, by omega⟩
    have hx0 := (byteAt_bd bs q).1
    have hx1 := byteAt_bd' bs
    rw [hm.out, ← hq.out, ← hr.out] at hx1
    obtain ⟨x, hx⟩ : ∃ x, Hid (byteAt bs q = x) := ⟨_, rfl⟩
    rw [hx.out] at hx0 hx1 k2 k3
    have hlen : 0 < (u8s L).length := by have := hN.out; simp [u8s]; omega
    obtain ⟨g2, c', e, _, _, _, _, _, _⟩ := (H.front 1 rfl).at hlen
    cases e
    have hu : Hid ((u8s L)[q]? = some (.int .u8 x)) := Lib.hid (by simp [u8s, k2])
    have hor := or8 hr8 hx0 hx1 hb0 hb1
    obtain ⟨y, hy⟩ : ∃ y, Hid (x + 2 ^ r * c = y) := ⟨_, rfl⟩
    rw [hy.out] at hor
    go_upto_region 2 with (fail)
    refine wp_region_calm (fun w1 => Own w0 w1 (blk g (.cells #[.slice (some ⟨g2, 0, none⟩) N cp, .int .i64 m] 34) :: slc 5 1 (.slice (some ⟨g2, 0, none⟩) N cp) N (u8s L) :: ps)) 20 (by kernel_rfl) (by kernel_rfl) H.drew ?_
    simp only [List.take_succ_cons, List.take_zero, List.drop_succ_cons, List.drop_zero]
    repeat
      refine calm_value (v := ?_) (by decide) rfl (fun σ w1 hS => ?_) ?_; rotate_left
      · have c0 := hS.cells
        obtain ⟨_, _, e, _, _, _, _, c1, _⟩ := (hS.front 1 rfl).at hlen
        cases e
        replace c1 := c1 q _ hu.out
        first | (go_simp; rfl) | rfl
      simp only [Act.put, List.setIfInBounds_toArray, List.set_cons_zero, List.set_cons_succ]
    refine calm_nil ?_
    intro wd HD
    clear H
    go_wp2_with (first
      | (refine wpList_store_slc rfl _ _ rfl rfl HD.swap (.int .u8 y) rfl (by kernel_rfl) hqN rfl ?_; clear HD; intro w2 HD; replace HD := HD.swap; have c0 := HD.cells)
      | (refine wpList_store_int rfl _ _ rfl rfl HD rfl (by kernel_rfl) (by simp) ?_; clear HD c0; intro w3 HD))
    go_end0
    refine ⟨_, rfl, HD.unwtr (n := m + 1) ?_ ?_ ?_⟩
    · simp [hm.out]
    · have := hN.out; simp [hm.out]; exact this
    · rw [k3, hcc.out, hy.out]; simp [u8s]
end Go.Proofs.Ytnebacnmbigaaaa
/- Bits: bytes as bits, plainly. No program in sight. -/
namespace Go.Proofs.Ytnebacnmbigaaaa
open Go.RowKit

def cut (n : Int) : Nat := (min (max n 0) 62).toNat
/-- The k-th of what Code puts. -/
theorem codeBits_take (v : Int) (m k : Nat) (hk : k < m) : (bitsOf v m).reverse.take (k + 1) = (bitsOf v m).reverse.take k ++ [bitOf v (m - 1 - k)] := by
  rw [List.take_succ_eq_append_getElem (by simpa [bitsOf_length] using hk)]
  simp [bitsOf]
def byteNums (s : ByteArray) : List Int := s.data.toList.map fun b => (b.toNat : Int)
theorem byteCells_nums (s : ByteArray) : byteCells s = u8s (byteNums s) := by simp [byteCells, u8s, byteNums]
theorem byteNums_length (s : ByteArray) : (byteNums s).length = s.size := by simp [byteNums]
theorem byteNums_bd (s : ByteArray) : ∀ x ∈ byteNums s, 0 ≤ x ∧ x < 256 := by
  intro x hx
  obtain ⟨b, _, rfl⟩ := List.mem_map.1 hx
  have := b.toNat_lt
  omega
/-- Bits of bytes. -/
def bitsOfNums (ns : List Int) : List Bool := ns.flatMap (bitsOf · 8)
theorem bitsOfNums_length (ns : List Int) : (bitsOfNums ns).length = 8 * ns.length := by
  induction ns with
  | nil => rfl
  | cons n ns ih =>
    simp only [bitsOfNums, List.flatMap_cons, List.length_append, bitsOf_length, List.length_cons] at ih ⊢
    omega
theorem byteAt_append (bs cs : List Bool) (h : bs.length % 8 = 0) (k : Nat) (hk : k < bs.length / 8) : byteAt (bs ++ cs) k = byteAt bs k := by
  unfold byteAt
  rw [List.drop_append_of_le_length (by omega), List.take_append_of_le_length (by simp; omega)]
theorem byteAt_append' (bs cs : List Bool) (h : bs.length % 8 = 0) (k : Nat) : byteAt (bs ++ cs) (bs.length / 8 + k) = byteAt cs k := by
  unfold byteAt
  rw [List.drop_append, List.drop_eq_nil_of_le (by omega), List.nil_append]
  congr 3
  omega
/-- A whole byte in front. -/
theorem bytesOf_byte (b8 cs : List Bool) (h : b8.length = 8) : bytesOf (b8 ++ cs) = valOf b8 :: bytesOf cs := by
  unfold bytesOf
  rw [show nbytes (b8 ++ cs).length = nbytes cs.length + 1 by simp [nbytes]; omega, List.range_succ_eq_map, List.map_cons, List.map_map]
  congr 1
  · unfold byteAt
    simp [List.take_append_of_le_length (show 8 ≤ b8.length by omega), List.take_of_length_le (show b8.length ≤ 8 by omega)]
  · refine List.map_congr_left fun k _ => ?_
    have := byteAt_append' b8 cs (by omega) k
    rw [show b8.length / 8 = 1 by omega] at this
    show byteAt _ (k + 1) = _
    rw [Nat.add_comm]
    exact this
theorem bytesOf_nums (ns : List Int) (hb : ∀ x ∈ ns, 0 ≤ x ∧ x < 256) : bytesOf (bitsOfNums ns) = ns := by
  induction ns with
  | nil => rfl
  | cons n ns ih =>
    show bytesOf (bitsOf n 8 ++ bitsOfNums ns) = _
    rw [bytesOf_byte _ _ (bitsOf_length n 8), ih fun x hx => hb x (List.mem_cons_of_mem _ hx), valOf_bitsOf]
    have := hb n List.mem_cons_self
    congr 1
    omega
theorem bytesOf_append (bs cs : List Bool) (h : bs.length % 8 = 0) : bytesOf (bs ++ cs) = bytesOf bs ++ bytesOf cs := by
  unfold bytesOf
  rw [show nbytes (bs ++ cs).length = bs.length / 8 + nbytes cs.length by simp [nbytes]; omega, show nbytes bs.length = bs.length / 8 by unfold nbytes; omega, List.range_add, List.map_append, List.map_map]
  congr 1
  · exact List.map_congr_left fun k hk => byteAt_append bs cs h k (List.mem_range.1 hk)
  · exact List.map_congr_left fun k _ => byteAt_append' bs cs h k
/-- What Text puts. -/
def textBits (s : ByteArray) : List Bool := bitsOfNums (byteNums s)
theorem textBits_length (s : ByteArray) : (textBits s).length = 8 * s.size := by rw [textBits, bitsOfNums_length, byteNums_length]
/-- The text that bits are. -/
def textOf (bs : List Bool) : ByteArray := strOfNums (bytesOf bs)
theorem bitsOfNums_get (ns : List Int) : ∀ (q r : Nat), r < 8 → (bitsOfNums ns)[8 * q + r]? = (ns[q]?).map (bitOf · r) := by
  induction ns with
  | nil => intro q r _; simp [bitsOfNums]
  | cons n ns ih =>
    intro q r hr
    show (bitsOf n 8 ++ bitsOfNums ns)[8 * q + r]? = _
    cases q with
    | zero =>
      rw [List.getElem?_append_left (by rw [bitsOf_length]; omega)]
      simp [bitsOf, hr]
    | succ q =>
      rw [List.getElem?_append_right (by rw [bitsOf_length]; omega), bitsOf_length, show 8 * (q + 1) + r - 8 = 8 * q + r by omega, ih q r hr]
      rfl
theorem textBits_get (s : ByteArray) {q r : Nat} (hq : q < s.size) (hr : r < 8) : (textBits s)[8 * q + r]? = some (bitOf ((s[q].toNat : Nat) : Int) r) := by
  have h : (byteNums s)[q]? = some ((s[q].toNat : Nat) : Int) := by
    have : q < s.data.size := hq
    simp only [byteNums, List.getElem?_map, Array.getElem?_toList, Array.getElem?_eq_getElem this]
    rfl
  rw [textBits, bitsOfNums_get _ q r hr, h]
  rfl
theorem byteNums_strOfNums (ns : List Int) (h : ∀ x ∈ ns, 0 ≤ x ∧ x < 256) : byteNums (strOfNums ns) = ns := by
  unfold byteNums strOfNums
  simp only [List.map_map]
  conv => rhs; rw [← List.map_id ns]
  refine List.map_congr_left fun x hx => ?_
  have := h x hx
  simp only [Function.comp, id]
  rw [UInt8.toNat_ofNat']
  omega
theorem aligned_get (bs : List Bool) (i : Nat) (hi : i < 8 * nbytes bs.length) : (aligned bs)[i]? = some (bs.getD i false) := by
  unfold aligned
  by_cases h : i < bs.length
  · rw [List.getElem?_append_left h, List.getElem?_eq_getElem h]
    simp [List.getD, h]
  · rw [List.getElem?_append_right (by omega), List.getElem?_replicate_of_lt (by unfold padN; unfold nbytes at hi; omega)]
    simp [List.getD, List.getElem?_eq_none (show bs.length ≤ i by omega)]
theorem bitsOfNums_bytesOf (bs : List Bool) : bitsOfNums (bytesOf bs) = aligned bs := by
  apply List.ext_getElem?
  intro i
  by_cases hi : i < 8 * nbytes bs.length
  · rw [aligned_get bs i hi]
    obtain ⟨q, hq⟩ : ∃ q, q = i / 8 := ⟨_, rfl⟩
    obtain ⟨r, hr⟩ : ∃ r, r = i % 8 := ⟨_, rfl⟩
    have e : i = 8 * q + r := by omega
    have hr8 : r < 8 := by omega
    rw [e, bitsOfNums_get _ q r hr8, bytesOf_get bs (by omega)]
    simp only [Option.map_some, Option.some.injEq]
    rw [byteAt, bitOf_valOf]
    simp only [List.getD, List.getElem?_take, hr8, if_true, List.getElem?_drop]
  · rw [List.getElem?_eq_none (by rw [bitsOfNums_length, bytesOf_length]; omega), List.getElem?_eq_none (by rw [aligned_length]; omega)]
theorem textBits_textOf (bs : List Bool) : textBits (textOf bs) = aligned bs := by
  unfold textBits textOf
  rw [byteNums_strOfNums _ (bytesOf_bd bs), bitsOfNums_bytesOf]
theorem textOf_size (bs : List Bool) : (textOf bs).size = nbytes bs.length := by
  have := textBits_length (textOf bs)
  rw [textBits_textOf, aligned_length] at this
  omega
theorem rev_bit (v : Int) (N m : Nat) (hm : m + 1 ≤ N) (bs r : List Bool) (p : Nat) (h : bs.drop p = (bitsOf v N).reverse ++ r) :
    (bs.drop (p + (N - (m + 1)))).take 1 = [bitOf v m] ∧ p + (N - (m + 1)) + 1 = p + (N - m) := by
  refine ⟨?_, by omega⟩
  rw [← List.drop_drop, h, List.drop_append_of_le_length (by rw [List.length_reverse, bitsOf_length]; omega)]
  have hg : ((bitsOf v N).reverse)[N - (m + 1)]? = some (bitOf v m) := by
    rw [List.getElem?_reverse (by rw [bitsOf_length]; omega), bitsOf_length]
    unfold bitsOf
    rw [List.getElem?_map, List.getElem?_range (by omega)]
    simp only [Option.map_some, Option.some.injEq]
    congr 1
    omega
  obtain ⟨hlt, he⟩ := List.getElem?_eq_some_iff.1 hg
  rw [List.drop_eq_getElem_cons hlt, he]
  simp
theorem last_zero (bs : List Bool) : 8 * nbytes bs.length - bs.length < 8 ∧ bs.length ≤ 8 * nbytes bs.length ∧ valOf (((textBits (textOf bs)).drop bs.length).take (8 * nbytes bs.length - bs.length)) = 0 := by
  refine ⟨by unfold nbytes; omega, by unfold nbytes; omega, ?_⟩
  rw [textBits_textOf, aligned, List.drop_left, List.take_replicate, valOf_zeros]
end Go.Proofs.Ytnebacnmbigaaaa
/- Bits: Reader.Left, Take. -/
namespace Go.Proofs.Ytnebacnmbigaaaa
open Go.RowKit

/-- A reader of a text, n bits taken. -/
def Rdr (g : Nat) (s : ByteArray) (n : Nat) : Piece := blk g (.cells #[.string s, .int .i64 n] 96)
set_option maxHeartbeats 400000 in
theorem rdleft_any {w0 w : World} {ps : List Piece} {g : Nat} {s : ByteArray} {n : Nat} (H : Own w0 w (Rdr g s n :: ps)) (hs : s.size ≤ 281474976710656) (hn : n ≤ 2251799813685248) :
    Calls Try.prog 75 #[.pointer (some ⟨g, 0, none⟩)] w fun e w' => e = .returned (.int .i64 (8 * s.size - n)) ∧ Own w0 w' (Rdr g s n :: ps) := by
  unfold Rdr at H ⊢
  obtain ⟨z, hz⟩ : ∃ z, Hid (s.size = z) := ⟨_, rfl⟩
  have hz2 := hz.out
  rw [hz2] at hs ⊢
  have hw : IntKind.i64.wrap (8 * (z : Int)) = 8 * z := IntWalk.i64_in _ ⟨by omega, by omega⟩
  have hw2 : IntKind.i64.wrap (8 * (z : Int) - n) = 8 * z - n := IntWalk.i64_in _ ⟨by omega, by omega⟩
  go_enter Try.func75, Try.ntmps75
  go_upto_region 3 with (fail)
  refine wp_region_calm (fun w1 => Own w0 w1 (blk g (.cells #[.string s, .int .i64 n] 96) :: ps)) 11 (by kernel_rfl) (by kernel_rfl) H.drew ?_
  simp only [List.take_succ_cons, List.take_zero, List.drop_succ_cons, List.drop_zero]
  repeat
    refine calm_value (v := ?_) (by decide) rfl (fun σ w1 hS => ?_) ?_; rotate_left
    · have c0 := hS.cells
      first | (go_simp; rfl) | rfl
    simp only [Act.put, List.setIfInBounds_toArray, List.set_cons_zero, List.set_cons_succ]
  refine calm_nil ?_
  intro wd HD
  go_wp2
  go_ret
  exact ⟨rfl, HD⟩
set_option maxHeartbeats 800000 in
theorem take_yes {w0 w : World} {ps : List Piece} {g : Nat} {s : ByteArray} {n : Nat} (m : Nat) (H : Own w0 w (Rdr g s n :: ps)) (hs : s.size ≤ 281474976710656) (hm : m ≤ 62) (hn : n + m ≤ 8 * s.size) :
    Calls Try.prog 50 #[.pointer (some ⟨g, 0, none⟩), .int .i64 m] w (Ret fun v w' => v = .tuple #[.int .i64 (valOf (((textBits s).drop n).take m)), .bool true] ∧ Own w0 w' (Rdr g s (n + m) :: ps)) := by
  obtain ⟨z, hz⟩ : ∃ z, Hid (s.size = z) := ⟨_, rfl⟩
  have hz2 := hz.out
  rw [hz2] at hs hn
  clear hz2
  obtain ⟨bs, hbs⟩ : ∃ bs, Hid ((textBits s).drop n = bs) := ⟨_, rfl⟩
  rw [hbs.out]
  have hbl : Hid (bs.length = 8 * z - n) := Lib.hid (by rw [← hbs.out, List.length_drop, textBits_length, hz.out])
  go_enter Try.func50, Try.ntmps50
  go_wp2_with fail
  refine (rdleft_any H (by rw [hz.out]; exact hs) (by omega)).mono ?_
  rintro e w1 ⟨rfl, H1⟩
  rw [hz.out]
  clear H
  have hle : (m : Int) ≤ 8 * (z : Int) - n := by omega
  go_wp2_with fail
  go_loopw [6, 26] (fun x i wx => ∃ k : Nat, ∃ u : Int, k ≤ m ∧ i = .int .i64 k ∧ x = .int .i64 u ∧ Hid (u = valOf (bs.take k)) ∧ Own w0 wx (Rdr g s n :: ps)) (fun _ i _ => m - (intOf i).toNat)
  case atStart => exact ⟨0, 0, Nat.zero_le _, rfl, rfl, Lib.hid rfl, H1⟩
  case round =>
    clear H1
    obtain ⟨k, u, hk, rfl, rfl, hu, H⟩ := hrel
    unfold Rdr at H
    have c0 := H.cells
    by_cases hlt : k < m
    · obtain ⟨p, hp⟩ : ∃ p, Hid (n + k = p) := ⟨_, rfl⟩
      obtain ⟨r, hr⟩ : ∃ r, Hid (r = p % 8) := ⟨_, Lib.hid rfl⟩
      obtain ⟨q, hq⟩ : ∃ q, Hid (q = p / 8) := ⟨_, Lib.hid rfl⟩
      have hp8 : p < 8 * z := by have := hp.out; omega
      have hpi : (n : Int) + (k : Int) = (p : Int) := by have := hp.out; omega
      have hrt : (p : Int).tmod 8 = (r : Int) := by have := hr.out; rw [Int.tmod_eq_emod_of_nonneg (by omega)]; omega
      have hqt : (p : Int).tdiv 8 = (q : Int) := by have := hq.out; rw [Int.tdiv_eq_ediv_of_nonneg (by omega)]; omega
      have hrt' : (p : Int) % 8 = (r : Int) := by have := hr.out; omega
      have hqt' : (p : Int) / 8 = (q : Int) := by have := hq.out; omega
      have hr8 : r < 8 := by have := hr.out; omega
      have hqs : q < s.size := by have := hz.out; have := hq.out; omega
      obtain ⟨b, hb⟩ : ∃ b, Hid (bs[k]? = some b) := ⟨bs[k]'(by have := hbl.out; omega), Lib.hid (List.getElem?_eq_getElem _)⟩
      have hbb : Hid (bitOf ((s[q].toNat : Nat) : Int) r = b) := Lib.hid (by
        have h1 := textBits_get s hqs hr8
        have h2 := hb.out
        rw [← hbs.out, List.getElem?_drop] at h2
        have e : n + k = 8 * q + r := by have := hp.out; have := hq.out; have := hr.out; omega
        rw [e, h1] at h2
        exact Option.some.inj h2)
      have hx8 := s[q].toNat_lt
      have hand : bits .and .u8 ((s[q].toNat : Int) / 2 ^ r) 1 = bi b := by
        have h0 : (0 : Int) ≤ (s[q].toNat : Int) / 2 ^ r := Int.ediv_nonneg (by omega) (Int.le_of_lt (Int.pow_pos (by decide)))
        have h1 : (s[q].toNat : Int) / 2 ^ r ≤ (s[q].toNat : Int) := Int.ediv_le_self _ (by omega)
        rw [u8_and1 h0 (by omega), ← hbb.out, bi_bitOf]
      have hbd := bi_bd b
      obtain ⟨c, hc⟩ : ∃ c, Hid (bi b = c) := ⟨_, rfl⟩
      rw [hc.out] at hand hbd
      obtain ⟨hc0, hc1⟩ := hbd
      have hub := valOf_bd (bs.take k)
      rw [← hu.out, List.length_take_of_le (by have := hbl.out; omega)] at hub
      obtain ⟨hu0, hu1⟩ := hub
      have hor := or64 (show k ≤ 61 by omega) hu0 hu1 hc0 hc1
      go_wp2
      go_round
      case rel =>
        have hw : wrap64 (c * 2 ^ k) = c * 2 ^ k := by
          have hp : (2 : Int) ^ k ≤ 2 ^ 61 := pow2_le (by omega)
          have hp0 : (0 : Int) < 2 ^ k := Int.pow_pos (by decide)
          have h61 : (2 : Int) ^ 61 = 2305843009213693952 := by decide
          have : c = 0 ∨ c = 1 := by omega
          rcases this with rfl | rfl
          · exact IntWalk.wrap64_in _ ⟨by omega, by omega⟩
          · exact IntWalk.wrap64_in _ ⟨by omega, by omega⟩
        exact ⟨k + 1, u + 2 ^ k * c, by omega, by go_num, val_int (by rw [hw]; exact hor), Lib.hid (by
          rw [List.take_add_one, hb.out, Option.toList_some, valOf_snoc, ← hu.out, hc.out, List.length_take_of_le (by have := hbl.out; omega)]), H⟩
      case measure => simp [intOf]; omega
    · obtain rfl : k = m := by omega
      have hnk : Hid ((n : Int) + k = ((n + k : Nat) : Int)) := Lib.hid (by omega)
      go_wp2_with (refine wpList_store_int rfl _ _ rfl rfl H rfl (by kernel_rfl) (by simp) ?_; clear H c0; intro w3 H)
      go_ret2
      refine ⟨.tuple #[.int .i64 u, .bool true], rfl, by rw [hu.out], ?_⟩
      rw [hnk.out] at H
      simpa [Rdr] using H
set_option maxHeartbeats 800000 in
theorem take_no {w0 w : World} {ps : List Piece} {g : Nat} {s : ByteArray} {n : Nat} (m : Int) (hm1 : -9223372036854775808 ≤ m) (hm2 : m ≤ 9223372036854775807) (H : Own w0 w (Rdr g s n :: ps)) (hs : s.size ≤ 281474976710656) (hn : n ≤ 2251799813685248) (hno : m < 0 ∨ 62 < m ∨ 8 * (s.size : Int) - n < m) :
    Calls Try.prog 50 #[.pointer (some ⟨g, 0, none⟩), .int .i64 m] w (Ret fun v w' => v = .tuple #[.int .i64 0, .bool false] ∧ Own w0 w' (Rdr g s n :: ps)) := by
  obtain ⟨z, hz⟩ : ∃ z, Hid (s.size = z) := ⟨_, rfl⟩
  rw [hz.out] at hno
  go_enter Try.func50, Try.ntmps50
  by_cases h1 : m < 0
  · go_wp2
    go_ret2
    exact ⟨_, rfl, rfl, H⟩
  by_cases h2 : 62 < m
  · go_wp2
    go_ret2
    exact ⟨_, rfl, rfl, H⟩
  have h3 : 8 * (z : Int) - n < m := by omega
  clear hno
  go_wp2_with fail
  refine (rdleft_any H hs hn).mono ?_
  rintro e w1 ⟨rfl, H1⟩
  rw [hz.out]
  go_wp2
  go_ret2
  exact ⟨_, rfl, rfl, H1⟩
/-- What a taking answers, and how many bits are taken then. -/
def tkOk (s : ByteArray) (n : Nat) (m : Int) : Prop := 0 ≤ m ∧ m ≤ 62 ∧ m ≤ 8 * (s.size : Int) - n
instance (s : ByteArray) (n : Nat) (m : Int) : Decidable (tkOk s n m) := by unfold tkOk; infer_instance
def tkV (s : ByteArray) (n : Nat) (m : Int) : Int := if tkOk s n m then valOf (((textBits s).drop n).take m.toNat) else 0
def tkN (s : ByteArray) (n : Nat) (m : Int) : Nat := if tkOk s n m then n + m.toNat else n
theorem tkN_le {s : ByteArray} {n : Nat} {m : Int} (h : n ≤ 8 * s.size) : tkN s n m ≤ 8 * s.size := by
  unfold tkN
  split
  · next h2 => unfold tkOk at h2; omega
  · exact h
theorem take_any {w0 w : World} {ps : List Piece} {g : Nat} {s : ByteArray} {n : Nat} (m : Int) (hm : -9223372036854775808 ≤ m ∧ m ≤ 9223372036854775807) (H : Own w0 w (Rdr g s n :: ps)) (hs : s.size ≤ 1000000) (hn : n ≤ 8 * s.size) :
    Calls Try.prog 50 #[.pointer (some ⟨g, 0, none⟩), .int .i64 m] w (Ret fun v w' => v = .tuple #[.int .i64 (tkV s n m), .bool (decide (tkOk s n m))] ∧ Own w0 w' (Rdr g s (tkN s n m) :: ps)) := by
  by_cases h : tkOk s n m
  · have h' := h
    unfold tkOk at h'
    obtain ⟨k, rfl⟩ : ∃ k : Nat, m = k := ⟨m.toNat, by omega⟩
    have := take_yes k H (by omega) (by omega) (by omega)
    simpa [tkV, tkN, h] using this
  · have h' := h
    unfold tkOk at h'
    have := take_no m hm.1 hm.2 H (by omega) (by omega) (by omega)
    simpa [tkV, tkN, h] using this
end Go.Proofs.Ytnebacnmbigaaaa
/- lz: tokens that are read. No program in sight. -/
namespace Go.Proofs.Ytnebacnmbigaaaa
open Go.RowKit

theorem tok_cells {w : World} {b o c i n : Nat} {l : List Tok} {t : Tok} (h : Rd w 3 (.slice (some ⟨b, o, none⟩) n c) n (rows tcell l)) (ht : l[i]? = some t) :
    w.cell? ⟨b, o + i * 3, none⟩ = some (.int .i64 t.len) ∧ w.cell? ⟨b, o + i * 3 + 1, none⟩ = some (.int .i64 t.dist) ∧ w.cell? ⟨b, o + i * 3 + 2, none⟩ = some (.int .i64 t.lit) := by
  have h0 := h.cell ((rows_get tcell tcell_length ht 0 (by omega)).trans rfl)
  have h1 := h.cell ((rows_get tcell tcell_length ht 1 (by omega)).trans rfl)
  have h2 := h.cell ((rows_get tcell tcell_length ht 2 (by omega)).trans rfl)
  exact ⟨h0, h1, h2⟩
theorem may_lit {a b c : Int} {n : Nat} (h : may ⟨a, b, c⟩ n = true) (ha : a = 0) : b = 0 ∧ 0 ≤ c ∧ c < 256 := by
  unfold may at h
  rw [if_pos ha] at h
  simpa using h
theorem may_back {a b c : Int} {n : Nat} (h : may ⟨a, b, c⟩ n = true) (ha : a ≠ 0) : c = 0 ∧ 3 ≤ a ∧ a ≤ 258 ∧ 1 ≤ b ∧ b ≤ 32768 ∧ b ≤ n := by
  unfold may at h
  rw [if_neg ha] at h
  simpa using h
def bcells (l : List Int) : List Value := l.map (.int .u8)
theorem bcells_length (l : List Int) : (bcells l).length = l.length := by simp [bcells]
theorem bcells_get {l : List Int} {k : Nat} {s : Int} (h : l[k]? = some s) : (bcells l)[k]? = some (.int .u8 s) := by simp [bcells, h]
theorem bcells_snoc (l : List Int) (x : Int) : bcells l ++ [.int .u8 x] = bcells (l ++ [x]) := by simp [bcells]
end Go.Proofs.Ytnebacnmbigaaaa
/- inflate: the reader; the walks of take, fail, room. -/
namespace Go.Proofs.Ytnebacnmbigaaaa
open Go.RowKit

/-- What a part of unpacking yields, said of a value, a place and a fault. -/
def GotR {α : Type} (g : Got α) (v : α) (n : Nat) (e : Int) : Prop := match g with
  | .ok v0 m => v = v0 ∧ n = m ∧ e = 0
  | .ran => e = 2
  | .bad e0 => e = e0
/-- A reader: of a text, n bits taken; what there is, the limit, the first fault. -/
def Inr (g rg : Nat) (s : ByteArray) (n : Nat) (out : List Int) (most e : Int) : Piece := ex fun v =>
  star (blk g (.cells #[.pointer (some ⟨rg, 0, none⟩), v, .int .i64 most, .int .i64 e] 59)) (star (slc 5 1 v out.length (bcells out)) (Rdr rg s n))
theorem Own.inr {w0 w : World} {ps : List Piece} {g rg : Nat} {s : ByteArray} {n : Nat} {out : List Int} {most e : Int} (H : Own w0 w (Inr g rg s n out most e :: ps)) :
    ∃ a c, out.length ≤ c ∧ c ≤ 9223372036854775807 ∧ Own w0 w (blk g (.cells #[.pointer (some ⟨rg, 0, none⟩), .slice a out.length c, .int .i64 most, .int .i64 e] 59) :: slc 5 1 (.slice a out.length c) out.length (bcells out) :: Rdr rg s n :: ps) := by
  obtain ⟨v, H⟩ := H.ex
  replace H := H.star
  replace H := (H.front 1 rfl).star
  obtain ⟨a, c, rfl, h1, h2⟩ := H.rd.shape
  exact ⟨a, c, h1, h2, (H.front 2 rfl)⟩
theorem Own.rot3 {w0 w : World} {a b c : Piece} {ps : List Piece} (H : Own w0 w (a :: b :: c :: ps)) : Own w0 w (b :: c :: a :: ps) := (H.front 2 rfl).front 2 rfl
theorem Own.rot3' {w0 w : World} {a b c : Piece} {ps : List Piece} (H : Own w0 w (a :: b :: c :: ps)) : Own w0 w (c :: a :: b :: ps) := H.front 2 rfl
theorem Own.uninr {w0 w : World} {ps : List Piece} {g rg : Nat} {s : ByteArray} {n m : Nat} {out : List Int} {most e : Int} {v : Value} (H : Own w0 w (blk g (.cells #[.pointer (some ⟨rg, 0, none⟩), v, .int .i64 most, .int .i64 e] 59) :: slc 5 1 v m (bcells out) :: Rdr rg s n :: ps)) (hm : m = out.length) : Own w0 w (Inr g rg s n out most e :: ps) := by
  subst hm
  refine Own.unex v (Own.unstar ?_)
  have h := ((H.front 2 rfl).front 2 rfl).unstar
  exact h.swap

set_option maxHeartbeats 800000 in
theorem infail_any {w0 w : World} {ps : List Piece} {g rg n : Nat} {s : ByteArray} {out : List Int} {most e : Int} (x : Int) (hx : x ≠ 0) (H : Own w0 w (Inr g rg s n out most e :: ps)) :
    Calls Try.prog 34 #[.pointer (some ⟨g, 0, none⟩), .int .i64 x] w (Ret fun _ w' => Own w0 w' (Inr g rg s n out most (if e = 0 then x else e) :: ps)) := by
  obtain ⟨a, c, h1, h2, H⟩ := H.inr
  have c0 := H.cells
  go_enter Try.func34, Try.ntmps34
  by_cases h : e = 0
  · have hb : (e == 0) = true := by simp [h]
    rw [if_pos h]
    go_wp2_with (refine wpList_store_int rfl _ _ rfl rfl H rfl (by kernel_rfl) (by simp) ?_; clear H c0; intro w3 H)
    go_end0
    exact ⟨_, rfl, H.uninr rfl⟩
  · have hb : (e == 0) = false := by simp [h]
    rw [if_neg h]
    go_wp2
    go_end0
    exact ⟨_, rfl, H.uninr rfl⟩
set_option maxHeartbeats 800000 in
theorem intake_tk {w0 w : World} {ps : List Piece} {g rg n : Nat} {s : ByteArray} {out : List Int} {most e : Int} (k : Nat) (hk : k ≤ 16) (H : Own w0 w (Inr g rg s n out most e :: ps)) (hs : s.size ≤ 1000000) (hn : n ≤ 8 * s.size) :
    Calls Try.prog 29 #[.pointer (some ⟨g, 0, none⟩), .int .i64 k] w (Ret fun r w' => r = .int .i64 (tkV s n k) ∧ Own w0 w' (Inr g rg s (tkN s n k) out most (if tkOk s n k then e else if e = 0 then 2 else e) :: ps)) := by
  obtain ⟨a, c, h1, h2, H⟩ := H.inr
  have c0 := H.cells
  obtain ⟨E, hE⟩ : ∃ E, Hid ((if tkOk s n k then e else if e = 0 then 2 else e) = E) := ⟨_, rfl⟩
  rw [hE.out]
  generalize hV : tkV s n k = V at *
  generalize hM : tkN s n k = M at *
  have HT := Lib.hid (take_any (g := rg) k (by omega) H.rot3' hs hn)
  rw [hV, hM] at HT
  clear hV hM
  go_enter Try.func29, Try.ntmps29
  go_wp2_with fail
  refine HT.out.mono ?_
  rintro e w1 ⟨_, rfl, rfl, H1⟩
  clear HT H c0
  have H := H1.rot3
  clear H1
  have c0 := H.cells
  by_cases ho : tkOk s n k
  · have hE2 := hE.out
    rw [if_pos ho] at hE2
    replace hE2 := Lib.hid hE2
    rw [decide_eq_true ho]
    go_wp2
    go_ret
    rw [hE2.out] at H
    exact ⟨_, rfl, rfl, H.uninr rfl⟩
  · have hE2 := hE.out
    rw [if_neg ho] at hE2
    replace hE2 := Lib.hid hE2
    rw [decide_eq_false ho]
    have HH := Lib.hid (infail_any (g := g) (rg := rg) 2 (by decide) (H.uninr rfl))
    go_wp2_with fail
    refine HH.out.mono ?_
    rintro e w2 ⟨_, rfl, H2⟩
    go_wp2
    go_ret
    rw [hE2.out] at H2
    exact ⟨_, rfl, rfl, H2⟩
set_option maxHeartbeats 800000 in
theorem intake_any {w0 w : World} {ps : List Piece} {g rg n : Nat} {s : ByteArray} {out : List Int} {most e : Int} (k : Nat) (hk : k ≤ 16) (H : Own w0 w (Inr g rg s n out most e :: ps)) (hs : s.size ≤ 1000000) (hn : n ≤ 8 * s.size) :
    Calls Try.prog 29 #[.pointer (some ⟨g, 0, none⟩), .int .i64 k] w (Ret fun r w' => ∃ v n' e', r = .int .i64 v ∧ 0 ≤ v ∧ v < 65536 ∧ n' ≤ 8 * s.size ∧ (e ≠ 0 → e' = e) ∧ (e = 0 → GotR (takeG (textBits s) k n) v n' e') ∧ Own w0 w' (Inr g rg s n' out most e' :: ps)) := by
  have HN := Lib.hid (tkN_le (m := k) hn)
  have hv : Hid (0 ≤ tkV s n k ∧ tkV s n k < 65536) := Lib.hid (by
    unfold tkV
    split
    · have h := valOf_bd (((textBits s).drop n).take (k : Int).toNat)
      refine ⟨h.1, Int.lt_of_lt_of_le h.2 ?_⟩
      have hl : (((textBits s).drop n).take (k : Int).toNat).length ≤ 16 := by simp; omega
      exact pow2_le hl
    · omega)
  have hg : Hid (if tkOk s n k then takeG (textBits s) k n = .ok (tkV s n k) (tkN s n k) else takeG (textBits s) k n = .ran) := Lib.hid (by
    unfold takeG
    rw [textBits_length]
    split
    · next h =>
      have h' := h
      unfold tkOk at h'
      rw [if_pos (by omega)]
      unfold tkV tkN
      rw [if_pos h, if_pos h]
      simp
    · next h =>
      unfold tkOk at h
      rw [if_neg (by omega)])
  refine (intake_tk k hk H hs hn).mono ?_
  rintro e1 w1 ⟨_, rfl, rfl, H1⟩
  refine ⟨_, rfl, _, _, _, rfl, hv.out.1, hv.out.2, HN.out, fun h => ?_, fun h => ?_, H1⟩
  · by_cases ho : tkOk s n k
    · rw [if_pos ho]
    · rw [if_neg ho, if_neg h]
  · have hg2 := hg.out
    by_cases ho : tkOk s n k
    · rw [if_pos ho] at hg2 ⊢; rw [hg2]; exact ⟨rfl, rfl, h⟩
    · rw [if_neg ho] at hg2 ⊢; rw [hg2, if_pos h]; rfl
end Go.Proofs.Ytnebacnmbigaaaa
/- Bits: Reader.Align. -/
namespace Go.Proofs.Ytnebacnmbigaaaa
open Go.RowKit

set_option maxHeartbeats 400000 in
theorem rdalign_any {w0 w : World} {ps : List Piece} {g : Nat} {s : ByteArray} {n : Nat} (H : Own w0 w (Rdr g s n :: ps)) (hn : n ≤ 2251799813685248) :
    Calls Try.prog 35 #[.pointer (some ⟨g, 0, none⟩)] w (Ret fun _ w' => Own w0 w' (Rdr g s (8 * nbytes n) :: ps)) := by
  unfold Rdr at H
  have c0 := H.cells
  obtain ⟨q, hq⟩ : ∃ q, Hid (q = nbytes n) := ⟨_, Lib.hid rfl⟩
  have hqt : ((n : Int) + 7).tdiv 8 = (q : Int) := by have := hq.out; unfold nbytes at this; rw [Int.tdiv_eq_ediv_of_nonneg (by omega)]; omega
  have hqt' : ((n : Int) + 7) / 8 = (q : Int) := by have := hq.out; unfold nbytes at this; omega
  have hqb : q ≤ 2251799813685248 := by have := hq.out; unfold nbytes at this; omega
  have h8 : Hid ((q : Int) * 8 = ((8 * q : Nat) : Int)) := Lib.hid (by omega)
  go_enter Try.func35, Try.ntmps35
  go_wp2_with (refine wpList_store_int rfl _ _ rfl rfl H rfl (by kernel_rfl) (by simp) ?_; clear H c0; intro w3 H)
  go_end0
  refine ⟨_, rfl, ?_⟩
  rw [← hq.out]
  rw [h8.out] at H
  simpa [Rdr] using H
end Go.Proofs.Ytnebacnmbigaaaa
/- Bits: Reader.Text. -/
namespace Go.Proofs.Ytnebacnmbigaaaa
open Go.RowKit

set_option maxHeartbeats 400000 in
theorem rdtext_yes {w0 w : World} {ps : List Piece} {g : Nat} {s : ByteArray} {n : Nat} (m : Nat) (H : Own w0 w (Rdr g s n :: ps)) (hs : s.size ≤ 281474976710656) (hm : nbytes n + m ≤ s.size) :
    Calls Try.prog 51 #[.pointer (some ⟨g, 0, none⟩), .int .i64 m] w (Ret fun v w' => v = .tuple #[.string (s.extract (nbytes n) (nbytes n + m)), .bool true] ∧ Own w0 w' (Rdr g s (8 * (nbytes n + m)) :: ps)) := by
  obtain ⟨z, hz⟩ : ∃ z, Hid (s.size = z) := ⟨_, rfl⟩
  obtain ⟨q, hq⟩ : ∃ q, Hid (q = nbytes n) := ⟨_, Lib.hid rfl⟩
  rw [← hq.out] at hm ⊢
  have hmz : q + m ≤ z := by rw [← hz.out]; exact hm
  have hz3 : z ≤ 281474976710656 := by rw [← hz.out]; exact hs
  have hqt : ((n : Int) + 7).tdiv 8 = (q : Int) := by have := hq.out; unfold nbytes at this; rw [Int.tdiv_eq_ediv_of_nonneg (by omega)]; omega
  have hqt' : ((n : Int) + 7) / 8 = (q : Int) := by have := hq.out; unfold nbytes at this; omega
  have hn : n ≤ 2251799813685248 := by have := hq.out; unfold nbytes at this; omega
  have hle : (m : Int) ≤ (s.size : Int) - (q : Int) := by have := hz.out; omega
  have h8 : Hid (8 * ((q : Int) + (m : Int)) = ((8 * (q + m) : Nat) : Int)) := Lib.hid (by omega)
  unfold Rdr at H
  have c0 := H.cells
  go_enter Try.func51, Try.ntmps51
  go_wp2_with (refine wpList_store_int rfl _ _ rfl rfl H rfl (by kernel_rfl) (by simp) ?_; clear H c0; intro w3 H; have c0 := H.cells)
  go_ret2
  refine ⟨_, rfl, rfl, ?_⟩
  rw [h8.out] at H
  simpa [Rdr] using H
set_option maxHeartbeats 400000 in
theorem rdtext_no {w0 w : World} {ps : List Piece} {g : Nat} {s : ByteArray} {n : Nat} (m : Int) (hm1 : -9223372036854775808 ≤ m) (hm2 : m ≤ 9223372036854775807) (H : Own w0 w (Rdr g s n :: ps)) (hs : s.size ≤ 281474976710656) (hn : n ≤ 2251799813685248) (hno : m < 0 ∨ (s.size : Int) - nbytes n < m) :
    Calls Try.prog 51 #[.pointer (some ⟨g, 0, none⟩), .int .i64 m] w (Ret fun v w' => v = .tuple #[.string ByteArray.empty, .bool false] ∧ Own w0 w' (Rdr g s n :: ps)) := by
  obtain ⟨q, hq⟩ : ∃ q, Hid (q = nbytes n) := ⟨_, Lib.hid rfl⟩
  rw [← hq.out] at hno
  have hqt : ((n : Int) + 7).tdiv 8 = (q : Int) := by have := hq.out; unfold nbytes at this; rw [Int.tdiv_eq_ediv_of_nonneg (by omega)]; omega
  have hqt' : ((n : Int) + 7) / 8 = (q : Int) := by have := hq.out; unfold nbytes at this; omega
  have hqb : q ≤ 281474976710656 := by have := hq.out; unfold nbytes at this; omega
  have H0 := H
  unfold Rdr at H
  have c0 := H.cells
  go_enter Try.func51, Try.ntmps51
  by_cases h1 : m < 0
  · go_wp2
    go_ret2
    exact ⟨_, rfl, rfl, H0⟩
  have h2 : (s.size : Int) - (q : Int) < m := by omega
  clear hno
  go_wp2
  go_ret2
  exact ⟨_, rfl, rfl, H0⟩
def txOk (s : ByteArray) (n : Nat) (m : Int) : Prop := 0 ≤ m ∧ m ≤ (s.size : Int) - nbytes n
instance (s : ByteArray) (n : Nat) (m : Int) : Decidable (txOk s n m) := by unfold txOk; infer_instance
def txV (s : ByteArray) (n : Nat) (m : Int) : ByteArray := if txOk s n m then s.extract (nbytes n) (nbytes n + m.toNat) else ByteArray.empty
def txN (s : ByteArray) (n : Nat) (m : Int) : Nat := if txOk s n m then 8 * (nbytes n + m.toNat) else n
theorem txN_le {s : ByteArray} {n : Nat} {m : Int} (h : n ≤ 8 * s.size) : txN s n m ≤ 8 * s.size := by
  unfold txN
  split
  · next h2 => unfold txOk at h2; omega
  · exact h
theorem rdtext_any {w0 w : World} {ps : List Piece} {g : Nat} {s : ByteArray} {n : Nat} (m : Int) (hm : -9223372036854775808 ≤ m ∧ m ≤ 9223372036854775807) (H : Own w0 w (Rdr g s n :: ps)) (hs : s.size ≤ 1000000) (hn : n ≤ 8 * s.size) :
    Calls Try.prog 51 #[.pointer (some ⟨g, 0, none⟩), .int .i64 m] w (Ret fun v w' => v = .tuple #[.string (txV s n m), .bool (decide (txOk s n m))] ∧ Own w0 w' (Rdr g s (txN s n m) :: ps)) := by
  by_cases h : txOk s n m
  · have h' := h
    unfold txOk at h'
    obtain ⟨k, rfl⟩ : ∃ k : Nat, m = k := ⟨m.toNat, by omega⟩
    have := rdtext_yes k H (by omega) (by omega)
    simpa [txV, txN, h] using this
  · have h' := h
    unfold txOk at h'
    have := rdtext_no m hm.1 hm.2 H (by omega) (by omega) (by omega)
    simpa [txV, txN, h] using this
end Go.Proofs.Ytnebacnmbigaaaa
/- inflate: the walks of room, stored. -/
namespace Go.Proofs.Ytnebacnmbigaaaa
open Go.RowKit

theorem xor_sum {a b : Nat} (ha : a ≤ 65535) (hb : b ≤ 65535) : a ^^^ b = 65535 ↔ a + b = 65535 := by
  have h1 : a ^^^ 65535 = 65535 - a := by
    have e1 : (BitVec.ofNat 16 a ^^^ BitVec.allOnes 16).toNat = 65535 - a := by
      rw [BitVec.xor_allOnes, BitVec.toNat_not, BitVec.toNat_ofNat, Nat.mod_eq_of_lt (by omega)]
    rw [BitVec.toNat_xor, BitVec.toNat_ofNat, Nat.mod_eq_of_lt (by omega)] at e1
    exact e1
  constructor
  · intro h
    have : b = a ^^^ (a ^^^ b) := by rw [← Nat.xor_assoc, Nat.xor_self, Nat.zero_xor]
    rw [h, h1] at this
    omega
  · intro h
    have : b = a ^^^ 65535 := by omega
    rw [this, ← Nat.xor_assoc, Nat.xor_self, Nat.zero_xor]
theorem xor_num {a b : Int} (ha : 0 ≤ a ∧ a < 65536) (hb : 0 ≤ b ∧ b < 65536) : ∃ c : Int, bits .xor .i64 a b = c ∧ (c = 65535 ↔ a + b = 65535) := by
  obtain ⟨a, rfl⟩ : ∃ k : Nat, a = k := ⟨a.toNat, by omega⟩
  obtain ⟨b, rfl⟩ : ∃ k : Nat, b = k := ⟨b.toNat, by omega⟩
  have h := xor_sum (a := a) (b := b) (by omega) (by omega)
  have hlt : a ^^^ b < 2 ^ 16 := Nat.xor_lt_two_pow (by omega) (by omega)
  have key : IntKind.i64.wrap ((BitVec.ofInt 64 (a : Int) ^^^ BitVec.ofInt 64 (b : Int)).toNat : Int) = ((a ^^^ b : Nat) : Int) := by
    rw [BitVec.ofInt_natCast, BitVec.ofInt_natCast, BitVec.toNat_xor, BitVec.toNat_ofNat, BitVec.toNat_ofNat, Nat.mod_eq_of_lt (by omega), Nat.mod_eq_of_lt (by omega), IntKind.wrap_i64]
    omega
  exact ⟨_, key, by omega⟩
theorem bytesAt_text {s : ByteArray} {q k : Nat} (h : q + k ≤ s.size) : bytesAt (textBits s) (8 * q) k = byteNums (s.extract q (q + k)) := by
  have e1 : ∀ (l : List Int) (j : Nat), (bitsOfNums l).drop (8 * j) = bitsOfNums (l.drop j) := by
    intro l
    induction l with
    | nil => intro j; simp [bitsOfNums]
    | cons x t ih =>
      intro j
      cases j with
      | zero => simp
      | succ j =>
        rw [List.drop_succ_cons, ← ih, bitsOfNums, List.flatMap_cons, show 8 * (j + 1) = (bitsOf x 8).length + 8 * j by rw [bitsOf_length]; omega, ← List.drop_drop, List.drop_left]
        rfl
  have e2 : ∀ (l : List Int) (j : Nat), (bitsOfNums l).take (8 * j) = bitsOfNums (l.take j) := by
    intro l
    induction l with
    | nil => intro j; simp [bitsOfNums]
    | cons x t ih =>
      intro j
      cases j with
      | zero => simp [bitsOfNums]
      | succ j =>
        rw [List.take_succ_cons, bitsOfNums, List.flatMap_cons, bitsOfNums, List.flatMap_cons, show 8 * (j + 1) = (bitsOf x 8).length + 8 * j by rw [bitsOf_length]; omega, List.take_length_add_append]
        exact congrArg _ (ih j)
  unfold bytesAt textBits
  rw [e1, e2]
  have e3 : byteNums (s.extract q (q + k)) = ((byteNums s).drop q).take k := by
    unfold byteNums
    rw [ByteArray.data_extract, Array.toList_extract, List.extract_eq_take_drop, ← List.map_drop, ← List.map_take, Nat.add_sub_cancel_left]
  rw [e3, bytesOf_nums]
  intro x hx
  exact byteNums_bd s x (List.mem_of_mem_drop (List.mem_of_mem_take hx))

set_option maxHeartbeats 800000 in
theorem inroom_any {w0 w : World} {ps : List Piece} {g rg n : Nat} {s : ByteArray} {out : List Int} {most e : Int} (x : Int) (hm : 0 ≤ most ∧ most ≤ 4611686018427387904) (hx : 0 ≤ x ∧ x ≤ 1000000) (hl : out.length ≤ 140737488000000) (H : Own w0 w (Inr g rg s n out most e :: ps)) :
    Calls Try.prog 52 #[.pointer (some ⟨g, 0, none⟩), .int .i64 x] w (Ret fun r w' => ∃ b e', r = .bool b ∧ (e ≠ 0 → b = false ∧ e' = e) ∧ (e = 0 → most - out.length < x → b = false ∧ e' = 12) ∧ (e = 0 → ¬ most - out.length < x → b = true ∧ e' = 0) ∧ Own w0 w' (Inr g rg s n out most e' :: ps)) := by
  obtain ⟨a, c, h1, h2, H⟩ := H.inr
  have c0 := H.cells
  obtain ⟨N, hN⟩ : ∃ N, Hid (out.length = N) := ⟨_, rfl⟩
  rw [hN.out] at H h1 hl ⊢
  rw [hN.out] at c0
  have hw : IntKind.i64.wrap (most - (N : Int)) = most - N := IntWalk.i64_in _ ⟨by omega, by omega⟩
  go_enter Try.func52, Try.ntmps52
  by_cases he : e = 0
  · subst he
    by_cases hlt : most - (N : Int) < x
    · go_upto_region 1 with (fail)
      refine wp_region_calm (fun w1 => Own w0 w1 (blk g (.cells #[.pointer (some ⟨rg, 0, none⟩), .slice a N c, .int .i64 most, .int .i64 0] 59) :: slc 5 1 (.slice a N c) N (bcells out) :: Rdr rg s n :: ps)) 18 (by kernel_rfl) (by kernel_rfl) H.drew ?_
      simp only [List.take_succ_cons, List.take_zero, List.drop_succ_cons, List.drop_zero]
      repeat
        first
        | (refine calm_value (v := ?_) (by decide) rfl (fun σ w1 hS => ?_) ?_
           rotate_left
           · have c0 := hS.cells
             first | (go_simp; rfl) | rfl
           simp only [Act.put, List.setIfInBounds_toArray, List.set_cons_zero, List.set_cons_succ])
        | (refine calm_skip (by decide) rfl ?_
           simp only [Act.put, List.setIfInBounds_toArray, List.set_cons_zero, List.set_cons_succ])
      refine calm_nil ?_
      intro wd HD
      replace H := HD
      clear HD c0
      have c0 := H.cells
      have HH := Lib.hid (infail_any (g := g) (rg := rg) 12 (by decide) (H.uninr hN.out.symm))
      go_wp2_with fail
      refine HH.out.mono ?_
      rintro e w1 ⟨_, rfl, H1⟩
      obtain ⟨a, c, h1, h2, H2⟩ := H1.inr
      clear H c0
      have c0 := H2.cells
      go_wp2
      go_ret
      exact ⟨_, rfl, rfl, H1⟩
    · go_upto_region 1 with (fail)
      refine wp_region_calm (fun w1 => Own w0 w1 (blk g (.cells #[.pointer (some ⟨rg, 0, none⟩), .slice a N c, .int .i64 most, .int .i64 0] 59) :: slc 5 1 (.slice a N c) N (bcells out) :: Rdr rg s n :: ps)) 18 (by kernel_rfl) (by kernel_rfl) H.drew ?_
      simp only [List.take_succ_cons, List.take_zero, List.drop_succ_cons, List.drop_zero]
      repeat
        first
        | (refine calm_value (v := ?_) (by decide) rfl (fun σ w1 hS => ?_) ?_
           rotate_left
           · have c0 := hS.cells
             first | (go_simp; rfl) | rfl
           simp only [Act.put, List.setIfInBounds_toArray, List.set_cons_zero, List.set_cons_succ])
        | (refine calm_skip (by decide) rfl ?_
           simp only [Act.put, List.setIfInBounds_toArray, List.set_cons_zero, List.set_cons_succ])
      refine calm_nil ?_
      intro wd HD
      replace H := HD
      clear HD c0
      have c0 := H.cells
      go_wp2
      go_ret
      exact ⟨_, rfl, rfl, H.uninr hN.out.symm⟩
  · have hb : (e == 0) = false := by simp [he]
    go_upto_region 1 with (fail)
    refine wp_region_calm (fun w1 => Own w0 w1 (blk g (.cells #[.pointer (some ⟨rg, 0, none⟩), .slice a N c, .int .i64 most, .int .i64 e] 59) :: slc 5 1 (.slice a N c) N (bcells out) :: Rdr rg s n :: ps)) 18 (by kernel_rfl) (by kernel_rfl) H.drew ?_
    simp only [List.take_succ_cons, List.take_zero, List.drop_succ_cons, List.drop_zero]
    repeat
      first
      | (refine calm_value (v := ?_) (by decide) rfl (fun σ w1 hS => ?_) ?_
         rotate_left
         · have c0 := hS.cells
           first | (go_simp; rfl) | rfl
         simp only [Act.put, List.setIfInBounds_toArray, List.set_cons_zero, List.set_cons_succ])
      | (refine calm_skip (by decide) rfl ?_
         simp only [Act.put, List.setIfInBounds_toArray, List.set_cons_zero, List.set_cons_succ])
    refine calm_nil ?_
    intro wd HD
    replace H := HD
    clear HD c0
    have c0 := H.cells
    go_wp2
    go_ret
    exact ⟨_, rfl, by first | rfl | simp [he], H.uninr hN.out.symm⟩
end Go.Proofs.Ytnebacnmbigaaaa
/- inflate: the walk of stored. -/
namespace Go.Proofs.Ytnebacnmbigaaaa
open Go.RowKit

theorem take_got {bs : List Bool} {k n n' : Nat} {v e : Int} (h : GotR (takeG bs k n) v n' e) : (e = 0 ∧ takeG bs k n = .ok v n' ∧ n' = n + k ∧ n' ≤ bs.length) ∨ (e = 2 ∧ takeG bs k n = .ran) := by
  unfold takeG at h ⊢
  split at h
  · next h2 =>
    rw [if_pos h2]
    obtain ⟨rfl, rfl, rfl⟩ := h
    exact .inl ⟨rfl, rfl, rfl, h2⟩
  · next h2 =>
    rw [if_neg h2]
    exact .inr ⟨h, rfl⟩
theorem nbytes_8 (q : Nat) : nbytes (8 * q) = q := by unfold nbytes; omega

set_option maxRecDepth 100000 in
set_option maxHeartbeats 1600000 in
theorem instored_any {w0 w : World} {ps : List Piece} {g rg n : Nat} {s : ByteArray} {out : List Int} {most : Int} (hm : 0 ≤ most ∧ most ≤ 1000000) (ho : (out.length : Int) ≤ most) (hs : s.size ≤ 1000000) (hn : n ≤ 8 * s.size) (H : Own w0 w (Inr g rg s n out most 0 :: ps)) :
    Calls Try.prog 30 #[.pointer (some ⟨g, 0, none⟩)] w (Ret fun _ w' => ∃ out' n' e', n' ≤ 8 * s.size ∧ (out'.length : Int) ≤ most ∧ GotR (storedG (textBits s) most out n) out' n' e' ∧ Own w0 w' (Inr g rg s n' out' most e' :: ps)) := by
  obtain ⟨a, c, h1, h2, H⟩ := H.inr
  have c0 := H.cells
  obtain ⟨q, hq⟩ : ∃ q, Hid (nbytes n = q) := ⟨_, rfl⟩
  have hqs : 8 * q ≤ 8 * s.size := by have := hq.out; unfold nbytes at this; omega
  obtain ⟨G, hG⟩ : ∃ G, Hid (storedG (textBits s) most out n = G) := ⟨_, rfl⟩
  rw [hG.out]
  have hG2 : Hid (G = (takeG (textBits s) 16 (8 * q)).bind fun a n1 => (takeG (textBits s) 16 n1).bind fun b n2 =>
    if a + b = 65535 then
      (if n2 + 8 * a.toNat ≤ (textBits s).length then (if most - out.length < a then .bad 12 else .ok (out ++ bytesAt (textBits s) n2 a.toNat) (n2 + 8 * a.toNat)) else .ran)
    else .bad 2) := Lib.hid (by rw [← hG.out]; unfold storedG; rw [hq.out])
  have HA := Lib.hid (rdalign_any H.rot3' (by omega))
  rw [hq.out] at HA
  obtain ⟨B, hB⟩ : ∃ B, Hid (textBits s = B) := ⟨_, rfl⟩
  have hBl : Hid (B.length = 8 * s.size) := Lib.hid (by rw [← hB.out, textBits_length])
  go_enter Try.func30, Try.ntmps30
  go_wp2_with fail
  refine HA.out.mono ?_
  rintro e w1 ⟨_, rfl, H1⟩
  clear HA H c0
  have H := H1.rot3.uninr rfl
  clear H1
  have HT := Lib.hid (intake_any 16 (by omega) H hs hqs)
  go_wp2_with fail
  refine HT.out.mono ?_
  rintro e w2 ⟨_, rfl, v1, n1, e1, rfl, hv1, hv1', hn1, hd1, hg1, H1⟩
  clear hd1
  replace hg1 := Lib.hid (take_got (hg1 trivial))
  clear HT H
  have HT := Lib.hid (intake_any 16 (by omega) H1 hs hn1)
  go_wp2_with fail
  refine HT.out.mono ?_
  rintro e w3 ⟨_, rfl, v2, n2, e2, rfl, hv2, hv2', hn2, he2, hg2, H2⟩
  replace hg2 := Lib.hid (fun h => take_got (hg2 h))
  replace he2 := Lib.hid he2
  clear HT H1
  obtain ⟨a, c, h1, h2, H⟩ := H2.inr
  have c0 := H.cells
  have hcase : Hid (e2 = 2 ∧ G = .ran ∨ e2 = 0 ∧ n2 = 8 * (q + 4) ∧ (G = if v1 + v2 = 65535 then
      (if n2 + 8 * v1.toNat ≤ 8 * s.size then (if most - out.length < v1 then .bad 12 else .ok (out ++ bytesAt (textBits s) n2 v1.toNat) (n2 + 8 * v1.toNat)) else .ran)
    else .bad 2)) := Lib.hid (by
      rcases hg1.out with ⟨rfl, e, e', _⟩ | ⟨rfl, e⟩
      · rcases hg2.out rfl with ⟨rfl, f, f', _⟩ | ⟨rfl, f⟩
        · right
          refine ⟨rfl, by omega, ?_⟩
          rw [hG2.out, e, Got.bind_ok, f, Got.bind_ok, textBits_length]
        · left
          refine ⟨rfl, ?_⟩
          rw [hG2.out, e, Got.bind_ok, f]; rfl
      · left
        refine ⟨he2.out (by decide), ?_⟩
        rw [hG2.out, e]; rfl)
  clear hg1 hg2 he2 hG2
  obtain ⟨x, hx, hx2⟩ := xor_num ⟨hv1, hv1'⟩ ⟨hv2, hv2'⟩
  replace hx2 := Lib.hid hx2
  rcases hcase.out with ⟨rfl, hGr⟩ | ⟨rfl, rfl, hGr⟩
  · have HH := Lib.hid (infail_any (g := g) (rg := rg) 2 (by decide) (H.uninr rfl))
    replace hGr := Lib.hid hGr
    clear hcase
    go_wp2_with fail
    refine HH.out.mono ?_
    rintro e w4 ⟨_, rfl, H3⟩
    go_wp2
    go_end0
    exact ⟨_, rfl, out, n2, 2, hn2, ho, by rw [hGr.out]; rfl, H3⟩
  · clear hcase
    by_cases hx3 : x = 65535
    case neg =>
      have hxb : (x == 65535) = false := by simpa using hx3
      have HH := Lib.hid (infail_any (g := g) (rg := rg) 2 (by decide) (H.uninr rfl))
      rw [if_neg (fun h => hx3 (hx2.out.2 h))] at hGr
      replace hGr := Lib.hid hGr
      go_wp2_with fail
      refine HH.out.mono ?_
      rintro e w4 ⟨_, rfl, H3⟩
      go_wp2
      go_end0
      exact ⟨_, rfl, out, _, 2, hn2, ho, by rw [hGr.out]; rfl, H3⟩
    have hxb : (x == 65535) = true := by simpa using hx3
    rw [if_pos (hx2.out.1 hx3)] at hGr
    replace hGr := Lib.hid hGr
    have HX := Lib.hid (rdtext_any v1 ⟨by omega, by omega⟩ H.rot3' hs hn2)
    clear hx2
    go_wp2_with fail
    refine HX.out.mono ?_
    rintro e w4 ⟨_, rfl, rfl, H3⟩
    clear HX H c0 H2
    have H := H3.rot3
    clear H3
    have c0 := H.cells
    by_cases ht : txOk s (8 * (q + 4)) v1
    case neg =>
      have ht2 := ht
      unfold txOk at ht2
      rw [nbytes_8] at ht2
      have hGr2 : Hid (G = .ran) := Lib.hid (by rw [hGr.out, if_neg (by omega)])
      rw [decide_eq_false ht]
      simp only [txN, if_neg ht] at H c0
      have HH := Lib.hid (infail_any (g := g) (rg := rg) 2 (by decide) (H.uninr rfl))
      clear hGr ht ht2
      go_wp2_with fail
      refine HH.out.mono ?_
      rintro e w5 ⟨_, rfl, H3⟩
      have HR := Lib.hid (inroom_any v1 (by omega) (by omega) (by omega) H3)
      go_wp2_with fail
      refine HR.out.mono ?_
      rintro e w6 ⟨_, rfl, b, e', rfl, hr1, _, _, H4⟩
      obtain ⟨rfl, rfl⟩ := hr1 (by decide)
      go_wp2
      go_end0
      exact ⟨_, rfl, out, _, 2, hn2, ho, by rw [hGr2.out]; rfl, H4⟩
    have ht2 := ht
    unfold txOk at ht2
    rw [nbytes_8] at ht2
    obtain ⟨k, rfl⟩ : ∃ k : Nat, v1 = k := ⟨v1.toNat, by omega⟩
    rw [decide_eq_true ht]
    simp only [txN, txV, if_pos ht, nbytes_8, Int.toNat_natCast] at H c0 ⊢
    have hGr2 : Hid (G = if most - out.length < (k : Int) then .bad 12 else .ok (out ++ byteNums (s.extract (q + 4) (q + 4 + k))) (8 * (q + 4 + k))) := Lib.hid (by
      rw [hGr.out, if_pos (by omega)]
      simp only [Int.toNat_natCast]
      rw [bytesAt_text (by omega), show 8 * (q + 4) + 8 * k = 8 * (q + 4 + k) by omega])
    have hts : Hid ((s.extract (q + 4) (q + 4 + k)).size = k) := Lib.hid (by rw [ByteArray.size_extract]; omega)
    obtain ⟨t, htt⟩ : ∃ t, Hid (s.extract (q + 4) (q + 4 + k) = t) := ⟨_, rfl⟩
    rw [htt.out] at hts hGr2
    rw [htt.out]
    have hn3 : 8 * (q + 4 + k) ≤ 8 * s.size := by omega
    clear hGr ht ht2
    have HR := Lib.hid (inroom_any (k : Int) (by omega) (by omega) (by omega) (H.uninr rfl))
    go_wp2_with fail
    refine HR.out.mono ?_
    rintro e w6 ⟨_, rfl, b, e', rfl, hr1, hr2, hr3, H4⟩
    clear HR H c0 hr1
    by_cases hlt : most - (out.length : Int) < k
    · obtain ⟨rfl, rfl⟩ := hr2 trivial hlt
      have hGr3 := hGr2.out
      rw [if_pos hlt] at hGr3
      replace hGr3 := Lib.hid hGr3
      go_wp2
      go_end0
      exact ⟨_, rfl, out, _, 12, by omega, ho, by rw [hGr3.out]; rfl, H4⟩
    · obtain ⟨rfl, rfl⟩ := hr3 trivial (by omega)
      have hGr3 := hGr2.out
      rw [if_neg hlt] at hGr3
      replace hGr3 := Lib.hid hGr3
      clear hr2 hr3 hGr2
      obtain ⟨a, c, h1, h2, H⟩ := H4.inr
      have c0 := H.cells
      obtain ⟨N, hN⟩ : ∃ N, Hid (out.length = N) := ⟨_, rfl⟩
      rw [hN.out] at H h1 ho hlt
      rw [hN.out] at c0
      have hsz : N + t.size ≤ 140737488355328 := by have := hts.out; omega
      have hx4 := Lib.hid hx3
      clear hx hx3 hxb H4
      go_wp2_with (first
        | (at_builtin; refine wpList_append_str rfl _ _ rfl Try.underlying32 Try.underlying9 u8Info rfl rfl H.swap rfl hsz ?_; clear H c0; intro v' w' H; replace H := H.swap; obtain ⟨a', c', rfl, h1', h2'⟩ := (H.front 1 rfl).rd.shape)
        | (refine wpList_store_slice rfl _ _ rfl rfl H rfl (by kernel_rfl) (by simp) ?_; clear H; intro w2 H))
      go_end0
      have hlen : (out ++ byteNums t).length = N + t.size := by rw [List.length_append, hN.out, byteNums_length]
      refine ⟨_, rfl, out ++ byteNums t, 8 * (q + 4 + k), hn3, by rw [hlen, hts.out]; omega, 0, by rw [hGr3.out]; exact ⟨rfl, rfl, rfl⟩, ?_⟩
      have hbc : bcells (out ++ byteNums t) = bcells out ++ byteCells t := by rw [byteCells_nums]; simp [bcells, u8s]
      rw [← hbc] at H
      exact H.uninr hlen.symm
end Go.Proofs.Ytnebacnmbigaaaa
/- huff: the walks of counts and left. -/
namespace Go.Proofs.Ytnebacnmbigaaaa
open Go.RowKit


theorem results_cell2 {P : Program} {fn : Func} {p u : Tmp} {ty : TypeId} (h : fn.results = #[.cell p ty, .tmp u]) (tmps : Array Value) (w : World) (g : Nat) (t : TypeId) (cs : Array Value) (fr : Nat × Nat) (d : TypeDesc)
    (hp : tmps.getD p undef = .pointer (some ⟨g, 0, none⟩)) (hg : w.heap[g]? = some (.cells cs t fr))
    (hu : P.underlying ty = some d) (hd : (match d with | .struct _ | .array _ _ => true | _ => false) = true) (hi : (P.info? ty).map (·.size) = some cs.size) :
    (results fn tmps).run P w = .ok (.tuple #[.agg cs, tmps.getD u undef]) w := by
  rw [results_cell_tmp h, hp]
  simp [asAddr, run_loadVar_row w g t ty cs fr d hg hu hd hi, Result.andThen]
theorem arrInfo (cs : List Int) (h : cs.length = 16) : (Try.prog.info? 77).map (·.size) = some (nums cs).toArray.size := by
  rw [List.size_toArray, nums_length, h]
  kernel_rfl
section
variable {w0 w : World} {ps : List Piece} {ops : Array Oper} {rest : List Oper} {o : Oper} {a : Act} {Q : Exit → Act → World → Prop}
/-- A whole array of 16 is read. -/
theorem wpList_load16 (hgd : o.guard = none) (x : Operand) (ho : o.op = .load 77 x) {g : Nat} (hx : a.eval x = .pointer (some ⟨g, 0, none⟩)) {cs : List Int} (hl : cs.length = 16) (H : Own w0 w (blk g (.cells (nums cs).toArray 77) :: ps))
    (h : wpList Try.prog ops Q rest (a.put o.dst (.agg (nums cs).toArray)) w) : wpList Try.prog ops Q (o :: rest) a w :=
  wpList_load_row hgd 77 x ho g hx 77 (nums cs).toArray (0, 0) _ H.block.1 Try.underlying77 rfl (arrInfo cs hl) h
/-- A whole array of 16 is stored. -/
theorem wpList_store16 (hgd : o.guard = none) (x y : Operand) (ho : o.op = .store 77 x y) {g : Nat} (hx : a.eval x = .pointer (some ⟨g, 0, none⟩)) {cs ds : List Int} (hl : cs.length = 16) (hd : ds.length = 16)
    (H : Own w0 w (blk g (.cells (nums cs).toArray 77) :: ps)) (hv : a.eval y = .agg (nums ds).toArray)
    (h : ∀ w', Own w0 w' (blk g (.cells (nums ds).toArray 77) :: ps) → wpList Try.prog ops Q rest (a.put o.dst undef) w') : wpList Try.prog ops Q (o :: rest) a w :=
  wpList_store_agg hgd x y ho hx H hv (by have := arrInfo ds hd; rw [List.size_toArray] at this; exact this) (by rw [List.size_toArray, nums_length, nums_length, hl, hd]; omega) (nums_one ds) (store_whole _ _ (by rw [nums_length, nums_length, hl, hd])) h
end

set_option maxHeartbeats 3200000 in
theorem counts_any {w : World} {v : Value} {n : Nat} {F : List Int} (hr : Rd w 1 v n (nums F)) (hn : n ≤ 1000000) :
    Calls Try.prog 41 #[v] w (Ret fun r w' => (∃ cs : List Int, cs.length = 16 ∧ r = .tuple #[.agg (nums cs).toArray, .bool (mayF F)] ∧ (mayF F = true → cs = countsF F)) ∧ Own w w' []) := by
  have hl := Lib.hid (rd_len hr)
  obtain ⟨a, c, rfl, hc1, hc2⟩ := hr.shape
  have HR := Lib.hid hr
  obtain ⟨Z, hZ⟩ : ∃ Z, Hid (mayF F = Z) := ⟨_, rfl⟩
  rw [hZ.out]
  clear hr
  have H := (Own.start w).alloc2 (.cells (nums (zerosF 16)).toArray 77) (.cells (nums (zerosF 16)).toArray 77)
  rw [arr_zero] at H
  go_enter Try.func41, Try.ntmps41
  go_upto_region 2 with (fail)
  generalize (w.alloc _).alloc _ = wa at *
  rw [← arr_zero] at H
  obtain ⟨cb, hcb⟩ : ∃ g, w.heap.size + 1 = g := ⟨_, rfl⟩
  rw [hcb] at H ⊢
  generalize w.heap.size = rb at *
  clear hcb
  have hzl : (zerosF 16).length = 16 := by simp [zerosF]
  by_cases h320 : 320 < n
  · have e : Hid (Z = false) := Lib.hid (by
      rw [← hZ.out]; unfold mayF
      have := hl.out
      rw [decide_eq_false (by omega), Bool.false_and])
    have hI : (320 : Int) < (n : Int) := by omega
    go_wp2_with (first
      | (refine wpList_load16 rfl _ rfl rfl hzl H ?_)
      | (refine wpList_store16 rfl _ _ rfl rfl hzl hzl H.swap rfl ?_; clear H; intro w2 H))
    refine bodyPost_ret (results_cell2 rfl _ _ rb _ _ _ _ rfl H.block.1 Try.underlying77 rfl (arrInfo _ hzl)) rfl ?_
    exact ⟨_, rfl, ⟨_, hzl, by rw [e.out]; rfl, fun h => by rw [e.out] at h; cases h⟩, H.bare⟩
  · have hI : ¬ (320 : Int) < (n : Int) := by omega
    go_wp2_with fail
    go_loopw [13] (fun s13 wx => ∃ i : Nat, s13 = .int .i64 i ∧ i ≤ n ∧ Hid ((F.take i).all okLen = true) ∧ Own w wx [blk cb (.cells (nums (bumpF (zerosF 16) (F.take i))).toArray 77), blk rb (.cells (nums (zerosF 16)).toArray 77)]) (fun s13 _ => n - (intOf s13).toNat)
    case atStart => exact ⟨0, by go_num, by omega, Lib.hid rfl, by simpa [bumpF] using H⟩
    case round =>
      clear H
      obtain ⟨i, rfl, hi, hal, H⟩ := hrel
      have hbl : (bumpF (zerosF 16) (F.take i)).length = 16 := by rw [bumpF_length]; exact hzl
      by_cases hlt : i < n
      · have hI2 : (i : Int) < (n : Int) := by omega
        have hs := all_take_succ (p := okLen) (F := F) (i := i) (by have := hl.out; omega)
        have hbt : bumpF (zerosF 16) (F.take (i + 1)) = bump1 (bumpF (zerosF 16) (F.take i)) (F.getD i 0) := bump_take (getD_get (by have := hl.out; omega))
        have hbb := fun j => bump_bound (F.take i) (zerosF 16) j 0 (fun j => by rw [zeros_get]; omega)
        have hll : (F.take i).length ≤ 1000000 := by rw [List.length_take]; omega
        obtain ⟨b, o, rfl, c1⟩ := rd_at HR.out H hlt
        have hbad : okLen (F.getD i 0) = false → Hid (Z = false) := fun h => Lib.hid (by
          rw [← hZ.out]
          unfold mayF
          have : F.all okLen = false := by
            rw [List.all_eq_false]
            refine ⟨F.getD i 0, ?_, by rw [h]; simp⟩
            rw [List.getD_eq_getElem?_getD, List.getElem?_eq_getElem (by have := hl.out; omega)]
            exact List.getElem_mem _
          rw [this, Bool.and_false])
        rw [hal.out, Bool.true_and] at hs
        generalize F.getD i 0 = x at *
        generalize hcs : bumpF (zerosF 16) (F.take i) = cs at *
        by_cases h0 : x < 0
        · have e := hbad (by simp [okLen]; omega)
          clear hs hbad hbt hbb
          go_wp2_with (first
            | (refine wpList_load16 rfl _ rfl rfl hbl H ?_)
            | (refine wpList_store16 rfl _ _ rfl rfl hzl hbl H.swap rfl ?_; clear H; intro w2 H))
          refine bodyPost_ret (results_cell2 rfl _ _ rb _ _ _ _ rfl H.block.1 Try.underlying77 rfl (arrInfo _ hbl)) rfl ?_
          exact ⟨_, rfl, ⟨_, hbl, by rw [e.out]; rfl, fun h => by rw [e.out] at h; cases h⟩, H.bare⟩
        · by_cases h15 : 15 < x
          · have e := hbad (by simp [okLen]; omega)
            clear hs hbad hbt hbb
            go_wp2_with (first
              | (refine wpList_load16 rfl _ rfl rfl hbl H ?_)
              | (refine wpList_store16 rfl _ _ rfl rfl hzl hbl H.swap rfl ?_; clear H; intro w2 H))
            refine bodyPost_ret (results_cell2 rfl _ _ rb _ _ _ _ rfl H.block.1 Try.underlying77 rfl (arrInfo _ hbl)) rfl ?_
            exact ⟨_, rfl, ⟨_, hbl, by rw [e.out]; rfl, fun h => by rw [e.out] at h; cases h⟩, H.bare⟩
          · have e : Hid ((F.take (i + 1)).all okLen = true) := Lib.hid (by rw [hs]; simp [okLen]; omega)
            obtain ⟨m, rfl⟩ : ∃ m : Nat, x = m := ⟨x.toNat, by omega⟩
            have hb1 := hbb m
            have c0 := H.cells m
            rw [arr_get (by omega)] at c0
            have hst : (nums cs).toArray.setIfInBounds m (.int .i64 (cs.getD m 0 + 1)) = (nums (bump1 cs m)).toArray := arr_set _ _ _
            obtain ⟨y, hy⟩ : ∃ y, Hid (cs.getD m 0 = y) := ⟨_, rfl⟩
            rw [hy.out] at c0 hst hb1
            have hyw : IntKind.i64.wrap (y + 1) = y + 1 := IntWalk.i64_in _ ⟨by omega, by omega⟩
            have hmI : (m : Int) < 16 := by omega
            have HST := Lib.hid hst
            have HBT := Lib.hid hbt
            have hfit : m < (nums cs).toArray.size := by rw [List.size_toArray, nums_length]; omega
            clear hs hbad hbt hbb hst hb1
            go_wp2_with (refine wpList_store_int rfl _ _ rfl rfl H rfl (by kernel_rfl) hfit ?_; clear H c0; intro w2 H; rw [HST.out] at H)
            go_roundw
            case rel => exact ⟨i + 1, by go_num, by omega, e, by rw [HBT.out]; exact H⟩
            case measure => simp [intOf]; omega
      · obtain rfl : i = n := by omega
        have hI2 : ¬ (i : Int) < (i : Int) := by omega
        have e : Hid (Z = true) := Lib.hid (by
          rw [← hZ.out]; unfold mayF
          have h1 := hal.out
          rw [List.take_of_length_le (by have := hl.out; omega)] at h1
          rw [h1, Bool.and_true, hl.out]
          simp; omega)
        have hst : (nums (bumpF (zerosF 16) (F.take i))).toArray.setIfInBounds 0 (.int .i64 0) = (nums (countsF F)).toArray := by
          rw [arr_set, List.take_of_length_le (by have := hl.out; omega)]; rfl
        have hcl : (countsF F).length = 16 := by unfold countsF; rw [List.length_set, bumpF_length]; exact hzl
        have HST := Lib.hid hst
        have hfit : 0 < (nums (bumpF (zerosF 16) (F.take i))).toArray.size := by rw [List.size_toArray, nums_length]; omega
        clear hst
        go_wp2_with (first
          | (refine wpList_load16 rfl _ rfl rfl hcl H ?_)
          | (refine wpList_store_int rfl _ _ rfl rfl H rfl (by kernel_rfl) hfit ?_; clear H; intro w2 H; rw [HST.out] at H)
          | (refine wpList_store16 rfl _ _ rfl rfl hzl hcl H.swap rfl ?_; clear H; intro w2 H))
        refine bodyPost_ret (results_cell2 rfl _ _ rb _ _ _ _ rfl H.block.1 Try.underlying77 rfl (arrInfo _ hcl)) rfl ?_
        exact ⟨_, rfl, ⟨_, hcl, by rw [e.out]; rfl, fun _ => rfl⟩, H.bare⟩


set_option maxHeartbeats 1600000 in
theorem left_any {w : World} {cs : List Int} (hl : cs.length = 16) (hb : ∀ k, 0 ≤ cs.getD k 0 ∧ cs.getD k 0 ≤ 1000000) :
    Calls Try.prog 42 #[.agg (nums cs).toArray] w (Ret fun r w' => r = .int .i64 (leftF cs) ∧ Own w w' []) := by
  obtain ⟨Z, hZ⟩ : ∃ Z, Hid (leftF cs = Z) := ⟨_, rfl⟩
  rw [hZ.out]
  have HB := Lib.hid hb
  have H := (Own.start w).alloc (.cells (nums cs).toArray 77)
  clear hb
  go_enter Try.func42, Try.ntmps42
  go_upto_region 2 with (fail)
  generalize w.alloc (.cells (nums cs).toArray 77) = wa at *
  generalize w.heap.size = b at *
  go_wp2_with fail
  go_loopw [3, 8] (fun s3 s8 wx => ∃ (j : Nat) (n : Int), s8 = .int .i64 j ∧ j ≤ 15 ∧ s3 = .int .i64 n ∧ 0 ≤ n ∧ Hid (n ≤ ((2 ^ j : Nat) : Int)) ∧ Hid (leftL n (cs.drop (1 + j)) = Z) ∧ Own w wx [blk b (.cells (nums cs).toArray 77)]) (fun _ s8 _ => 15 - (intOf s8).toNat)
  case atStart => exact ⟨0, 1, by go_num, by omega, by go_num, by omega, Lib.hid (by simp), Lib.hid hZ.out, H⟩
  case round =>
    clear H
    obtain ⟨j, n, rfl, hj, rfl, hn, hn2, hlf, H⟩ := hrel
    have hn3 : n ≤ 32768 := by
      have h1 := hn2.out
      have h2 : (2 ^ j : Nat) ≤ 2 ^ 15 := Nat.pow_le_pow_right (by omega) hj
      omega
    by_cases hlt : j < 15
    · have hI : (j : Int) < 15 := by omega
      have c0 := H.cells (1 + j)
      rw [arr_get (by omega)] at c0
      have hk := HB.out (1 + j)
      have hd : cs.drop (1 + j) = cs.getD (1 + j) 0 :: cs.drop (1 + (j + 1)) := by
        rw [List.drop_eq_getElem_cons (by omega), List.getD_eq_getElem?_getD, List.getElem?_eq_getElem (by omega)]
        rfl
      have hlf2 := hlf.out
      rw [hd, leftL] at hlf2
      generalize cs.getD (1 + j) 0 = k at *
      have hw1 : IntKind.i64.wrap (2 * n) = 2 * n := IntWalk.i64_in _ ⟨by omega, by omega⟩
      have hw2 : IntKind.i64.wrap (2 * n - k) = 2 * n - k := IntWalk.i64_in _ ⟨by omega, by omega⟩
      by_cases hneg : 2 * n - k < 0
      · rw [if_pos hneg] at hlf2
        have e := Lib.hid hlf2.symm
        clear hlf2 hd hlf
        go_wp2_with fail
        go_ret
        exact ⟨_, rfl, by rw [e.out]; rfl, H.bare⟩
      · rw [if_neg hneg] at hlf2
        have e := Lib.hid hlf2
        have hp : Hid (2 * n - k ≤ ((2 ^ (j + 1) : Nat) : Int)) := Lib.hid (by
          have := hn2.out
          rw [Nat.pow_succ]
          omega)
        clear hlf2 hd hlf hn2
        go_wp2_with fail
        go_roundw
        case rel => exact ⟨j + 1, 2 * n - k, by go_num, by omega, by go_num, by omega, hp, e, H⟩
        case measure => simp [intOf]; omega
    · obtain rfl : j = 15 := by omega
      have e : Hid (n = Z) := Lib.hid (by
        have := hlf.out
        rw [List.drop_eq_nil_of_le (by omega)] at this
        exact this)
      clear hlf
      go_wp2_with fail
      go_ret
      exact ⟨_, rfl, by rw [← e.out]; rfl, H.bare⟩
end Go.Proofs.Ytnebacnmbigaaaa
/- huff: the walk of Codes. -/
namespace Go.Proofs.Ytnebacnmbigaaaa
open Go.RowKit


set_option maxRecDepth 100000 in
set_option maxHeartbeats 6400000 in
theorem codes_any {w : World} {v : Value} {n : Nat} {F : List Int} (hr : Rd w 1 v n (nums F)) (hn : n ≤ 1000000) :
    Calls Try.prog 17 #[v] w (Ret fun r w' => ∃ ov, r = .tuple #[ov, .int .i64 (cerrF F)] ∧ Own w w' [slc 3 1 ov (cresF F).length (nums (cresF F))]) := by
  have hl := Lib.hid (rd_len hr)
  obtain ⟨a, c, rfl, hc1, hc2⟩ := hr.shape
  have HR := Lib.hid hr
  obtain ⟨er, her⟩ : ∃ er, Hid (cerrF F = er) := ⟨_, rfl⟩
  obtain ⟨R, hRes⟩ : ∃ R, Hid (cresF F = R) := ⟨_, rfl⟩
  rw [her.out, hRes.out]
  obtain ⟨RL, hRL⟩ : ∃ RL, Hid (R.length = RL) := ⟨_, rfl⟩
  rw [hRL.out]
  obtain ⟨Z, hZ⟩ : ∃ Z, Hid (mayF F = Z) := ⟨_, rfl⟩
  have HC := Lib.hid (counts_any hr hn)
  rw [hZ.out] at HC
  clear hr
  have hnil : er ≠ 0 → R = [] ∧ RL = 0 := fun h => by
    have : R = [] := by rw [← hRes.out]; unfold cresF; rw [her.out, if_neg h]
    exact ⟨this, by rw [← hRL.out, this]; rfl⟩
  have HNIL := Lib.hid hnil
  clear hnil
  have hzl : (zerosF 16).length = 16 := by simp [zerosF]
  go_enter Try.func17, Try.ntmps17
  go_wp2_with fail
  refine HC.out.mono ?_
  rintro e w1 ⟨_, rfl, ⟨cs, hcs, rfl, hcs2⟩, H1⟩
  have HCS := Lib.hid hcs2
  have H := H1.alloc (.cells (nums (zerosF 16)).toArray 77)
  rw [arr_zero] at H
  clear hcs2 HC H1
  go_upto_region 2 with (first
    | (generalize w1.alloc _ = wa at *; rw [← arr_zero] at H; generalize w1.heap.size = cb at *; refine wpList_store16 rfl _ _ rfl rfl hzl hcs H rfl ?_; clear H; intro w2 H))
  cases Z with
  | false =>
    have e1 : Hid (er = 1) := Lib.hid (by rw [← her.out]; unfold cerrF; rw [hZ.out]; rfl)
    obtain ⟨e2, e3⟩ := HNIL.out (by rw [e1.out]; decide)
    subst e3
    have E2 := Lib.hid e2
    clear e2
    go_wp2_with fail
    go_ret2
    refine ⟨_, rfl, _, by rw [e1.out]; rfl, ?_⟩
    rw [E2.out]
    exact H.bare.nil 3 1
  | true =>
    have hm := mayF_len hZ.out
    have hcs2 := HCS.out rfl
    subst hcs2
    have hF := hm.2
    have hn3 : n ≤ 320 := by have := hm.1; have := hl.out; omega
    have hlw := left_law hF
    have hcb : ∀ k, 0 ≤ (countsF F).getD k 0 ∧ (countsF F).getD k 0 ≤ 1000000 := by
      intro k
      rcases Nat.lt_or_ge k 16 with h | h
      · rw [counts_get hF k h]
        unfold cntC
        split
        · omega
        · have := cntL_le F k; have := hl.out; omega
      · rw [List.getD_eq_getElem?_getD, List.getElem?_eq_none (by rw [counts_length]; exact h)]; simp
    have HL := Lib.hid (fun w => left_any (w := w) hcs hcb)
    have HF := Lib.hid hF
    have HCB := Lib.hid hcb
    clear hm hF hcb
    by_cases hw : sumF wtF F ≤ 2 ^ 15
    · rw [if_pos hw] at hlw
      have e1 : Hid (er = 0) := Lib.hid (by rw [← her.out]; unfold cerrF; rw [hZ.out, if_pos rfl, if_pos hw])
      have e2 : Hid (codesF F = R) := Lib.hid (by rw [← hRes.out]; unfold cresF; rw [her.out, e1.out]; rfl)
      have HW := Lib.hid hw
      obtain ⟨lf, hlf⟩ : ∃ lf, Hid (leftF (countsF F) = lf) := ⟨_, rfl⟩
      rw [hlf.out] at hlw HL
      have hlf0 : ¬ lf < 0 := by omega
      have hRl : n = RL := by rw [← hRL.out, ← e2.out, codesF_length]; exact hl.out.symm
      subst hRl
      clear hw hlw
      go_wp2_with (refine wpList_load16 rfl _ rfl rfl hcs H ?_)
      refine (HL.out _).mono ?_
      rintro e w3 ⟨_, rfl, rfl, H1⟩
      have H := H.join H1
      clear H1
      have H := H.alloc (.cells (nums (zerosF 16)).toArray 77)
      rw [arr_zero] at H
      go_upto_region 7 with (fail)
      generalize w3.alloc _ = wa at *
      rw [← arr_zero] at H
      generalize w3.heap.size = nb at *
      go_wp2_with fail
      go_loopw [7] (fun s7 wx => ∃ (k : Nat) (nx : List Int), s7 = .int .i64 k ∧ 1 ≤ k ∧ k ≤ 15 ∧ Hid (nx.length = 16) ∧ Hid (∀ j, j ≤ k → nx.getD j 0 = lowF F j) ∧ Own w wx (blk nb (.cells (nums nx).toArray 77) :: blk cb (.cells (nums (countsF F)).toArray 77) :: [])) (fun s7 _ => 15 - (intOf s7).toNat)
      case atStart => exact ⟨1, zerosF 16, by go_num, by omega, by omega, Lib.hid hzl, Lib.hid (fun j h => by
        rw [zeros_get]
        rcases (by omega : j = 0 ∨ j = 1) with rfl | rfl
        · rw [lowF_zero]
        · rw [lowF_succ, lowF_zero]; rfl), H⟩
      case round =>
        clear H
        obtain ⟨k, nx, rfl, hk1, hk2, hnl, hnx, H⟩ := hrel
        have hcl := counts_length F
        by_cases hlt : k < 15
        · have hkI : (k : Int) < 15 := by omega
          have hk16 : (k : Int) < 16 := by omega
          have hk17 : (k : Int) + 1 < 16 := by omega
          have hkw : IntKind.i64.wrap ((k : Int) + 1) = (k : Int) + 1 := IntWalk.i64_in _ ⟨by omega, by omega⟩
          have hfit : k + 1 < (nums nx).toArray.size := by rw [List.size_toArray, nums_length]; have := hnl.out; omega
          have g0 : ∀ (ps' : List Piece) (w' : World), Own w w' (blk nb (.cells (nums nx).toArray 77) :: blk cb (.cells (nums (countsF F)).toArray 77) :: ps') → w'.cell? ⟨nb, k, none⟩ = some (.int .i64 (lowF F k)) ∧ w'.cell? ⟨cb, k, none⟩ = some (.int .i64 (cntC F k)) := fun ps' w' h => by
            constructor
            · rw [h.cells, arr_get (by have := hnl.out; omega), hnx.out k (Nat.le_refl _)]
            · rw [h.swap.cells, arr_get (by omega), counts_get HF.out k (by omega)]
          have G0 := Lib.hid g0
          have hlow := lowF_succ F k
          have hroom := low_room HF.out HW.out (k + 1) (by omega)
          have hpk : (2 : Int) ^ (k + 1) ≤ 32768 := by
            have : (2 : Nat) ^ (k + 1) ≤ 2 ^ 15 := Nat.pow_le_pow_right (by omega) (by omega)
            have h2 : ((2 ^ (k + 1) : Nat) : Int) ≤ ((2 ^ 15 : Nat) : Int) := Int.ofNat_le.2 this
            simpa using h2
          have b1 := lowF_nonneg F k
          have b2 := cntC_nonneg F k
          have b3 := cntC_nonneg F (k + 1)
          have hst := arr_set nx (k + 1) (lowF F (k + 1))
          have hnx2 : Hid (∀ j, j ≤ k + 1 → (nx.set (k + 1) (lowF F (k + 1))).getD j 0 = lowF F j) := Lib.hid (fun j hj => by
            rw [List.getD_eq_getElem?_getD, List.getElem?_set]
            by_cases h : k + 1 = j
            · subst h; rw [if_pos rfl, if_pos (by have := hnl.out; omega)]; rfl
            · rw [if_neg h, ← List.getD_eq_getElem?_getD]; exact hnx.out j (by omega))
          have hnl2 : Hid ((nx.set (k + 1) (lowF F (k + 1))).length = 16) := Lib.hid (by rw [List.length_set]; exact hnl.out)
          generalize lowF F (k + 1) = y2 at *
          generalize lowF F k = y at *
          generalize cntC F k = z at *
          generalize cntC F (k + 1) = z2 at *
          generalize (2 : Int) ^ (k + 1) = pw at *
          generalize hnx' : nx.set (k + 1) y2 = nx2 at *
          have HST := Lib.hid hst
          clear hst hnx' hnx g0
          have hs1 : IntKind.i64.wrap (y + z) = y + z := IntWalk.i64_in _ ⟨by omega, by omega⟩
          have hs2 : IntKind.i64.wrap ((y + z) * 2) = y2 := by rw [hlow, Int.mul_comm]; exact IntWalk.i64_in _ ⟨by omega, by omega⟩
          have HLOW := Lib.hid hlow
          clear hlow hroom
          go_upto_region 10 with (fail)
          refine wp_region_calm (fun w1 => Own w w1 (blk nb (.cells (nums nx).toArray 77) :: blk cb (.cells (nums (countsF F)).toArray 77) :: [])) 10 (by kernel_rfl) (by kernel_rfl) H.drew ?_
          simp only [List.take_succ_cons, List.take_zero, List.drop_succ_cons, List.drop_zero]
          repeat
            first
            | (refine calm_value (v := ?_) (by decide) rfl (fun σ w1 hS => ?_) ?_
               rotate_left
               · obtain ⟨c0, c1⟩ := G0.out _ _ hS
                 first | (go_simp; rfl) | rfl
               simp only [Act.put, List.setIfInBounds_toArray, List.set_cons_zero, List.set_cons_succ])
            | (refine calm_skip (by decide) rfl ?_
               simp only [Act.put, List.setIfInBounds_toArray, List.set_cons_zero, List.set_cons_succ])
          refine calm_nil ?_
          intro wd HD
          clear H
          go_wp2_with (refine wpList_store_int rfl _ _ rfl rfl HD rfl (by kernel_rfl) hfit ?_; clear HD; intro w4 H; rw [HST.out] at H)
          go_roundw
          case rel => exact ⟨k + 1, nx2, by go_num, by omega, by omega, hnl2, hnx2, H⟩
          case measure => simp [intOf]; omega
        · have hkI : ¬ (k : Int) < 15 := by omega
          have hk15 : Hid (15 ≤ k) := Lib.hid (by omega)
          have hmk : ∀ w : World, (Instr.makeSlice 31 (.int .i64 n) (.int .i64 n)).run Try.prog w = .ok (.slice (some ⟨w.heap.size, 0, none⟩) n n) (w.alloc (.cells (madeCells #[.int .i64 0] n) 3)) := run_make_row' _ _ _ 8 Try.underlying31 intInfo rfl .i64 .i64 n (by omega) (by omega)
          go_upto_region 12 with (fail)
          clear hmk
          have H := (H.alloc (.cells (madeCells #[.int .i64 0] n) 3)).slc_mk (xs := nums (zerosF n)) (n := n) (size := 1) (by simp [nums, zerosF]) (Nat.le_refl _) (by simp [maxLen]; omega) (by simp [size_madeCells]) (by rw [toList_madeCells_one]; simp [nums, zerosF])
          generalize World.alloc _ (.cells (madeCells #[.int .i64 0] n) 3) = wb at *
          generalize wr.heap.size = og at *
          go_wp2_with fail
          go_loopw [43] (fun s43 wx => ∃ (i : Nat) (ny o : List Int), s43 = .int .i64 i ∧ i ≤ n ∧ Hid (ny.length = 16) ∧ Hid (o.length = n) ∧ Hid (∀ j : Nat, 1 ≤ j → j ≤ 15 → ny.getD j 0 = lowF F j + cntL (F.take i) j) ∧ Hid (∀ s, o.getD s 0 = if s < i then codeF F s else 0) ∧ Own w wx (slc 3 1 (.slice (some ⟨og, 0, none⟩) n n) n (nums o) :: blk nb (.cells (nums ny).toArray 77) :: blk cb (.cells (nums (countsF F)).toArray 77) :: [])) (fun s43 _ => n - (intOf s43).toNat)
          case atStart => exact ⟨0, nx, zerosF n, by go_num, by omega, hnl, Lib.hid (by simp [zerosF]), Lib.hid (fun j h1 h2 => by rw [hnx.out j (by have := hk15.out; omega)]; simp [cntL]), Lib.hid (fun s => by rw [zeros_get, if_neg (by omega)]), H⟩
          case round =>
            clear H hnx hnl
            obtain ⟨i, ny, o, rfl, hi, hnl, hol, hny, ho, H⟩ := hrel
            by_cases hlt : i < n
            · have hI : (i : Int) < (n : Int) := by omega
              obtain ⟨b, oo, rfl, c1⟩ := rd_at HR.out H hlt
              have hx := HF.out (F.getD i 0) (by
                rw [List.getD_eq_getElem?_getD, List.getElem?_eq_getElem (by have := hl.out; omega)]
                exact List.getElem_mem _)
              have hil : i < F.length := by have := hl.out; omega
              by_cases hpos : 0 < F.getD i 0
              · have hcode : codeF F i = lowF F (F.getD i 0).toNat + cntL (F.take i) (F.getD i 0).toNat := by unfold codeF; rw [if_pos hpos]
                obtain ⟨m, hm⟩ : ∃ m : Nat, F.getD i 0 = m := ⟨(F.getD i 0).toNat, by omega⟩
                have hm1 : 1 ≤ m := by omega
                have hm2 : m ≤ 15 := by omega
                have hlt2 := code_lt hil hpos
                have hroom := low_room HF.out HW.out m hm2
                have hpk : (2 : Int) ^ m ≤ 32768 := by
                  have : (2 : Nat) ^ m ≤ 2 ^ 15 := Nat.pow_le_pow_right (by omega) (by omega)
                  have h2 : ((2 ^ m : Nat) : Int) ≤ ((2 ^ 15 : Nat) : Int) := Int.ofNat_le.2 this
                  simpa using h2
                have hcn := code_nonneg (l := F) i
                rw [hm] at hcode hpos hx c1 hlt2
                rw [Int.toNat_natCast] at hcode hlt2
                have hnyv : ny.getD m 0 = codeF F i := by rw [hny.out m hm1 hm2, hcode]
                have g0 := H.swap.cells m
                rw [arr_get (by have := hnl.out; omega), hnyv] at g0
                have ho2 : Hid (∀ s, (o.set i (codeF F i)).getD s 0 = if s < i + 1 then codeF F s else 0) := Lib.hid (fun s => by
                  rw [List.getD_eq_getElem?_getD, List.getElem?_set]
                  by_cases h : i = s
                  · subst h; rw [if_pos rfl, if_pos (by have := hol.out; omega), if_pos (by omega)]; rfl
                  · rw [if_neg h, ← List.getD_eq_getElem?_getD, ho.out s]
                    by_cases h2 : s < i
                    · rw [if_pos h2, if_pos (by omega)]
                    · rw [if_neg h2, if_neg (by omega)])
                have hny2 : Hid (∀ j : Nat, 1 ≤ j → j ≤ 15 → (ny.set m (codeF F i + 1)).getD j 0 = lowF F j + cntL (F.take (i + 1)) j) := Lib.hid (fun j h1 h2 => by
                  rw [cntL_take_succ hil, hm, List.getD_eq_getElem?_getD, List.getElem?_set]
                  by_cases h : m = j
                  · subst h; rw [if_pos rfl, if_pos (by have := hnl.out; omega), if_pos rfl, hcode]; simp; omega
                  · rw [if_neg h, if_neg (by omega), ← List.getD_eq_getElem?_getD, hny.out j h1 h2]; simp)
                have hol2 : Hid ((o.set i (codeF F i)).length = n) := Lib.hid (by rw [List.length_set]; exact hol.out)
                have hnl2 : Hid ((ny.set m (codeF F i + 1)).length = 16) := Lib.hid (by rw [List.length_set]; exact hnl.out)
                have hst1 : (nums o).set i (.int .i64 (codeF F i)) = nums (o.set i (codeF F i)) := nums_set _ _ _
                have hst2 := arr_set ny m (codeF F i + 1)
                have hfit : m < (nums ny).toArray.size := by rw [List.size_toArray, nums_length]; have := hnl.out; omega
                have hy1 : codeF F i ≤ 32768 := by
                  have : cntC F m = cntL F m := by unfold cntC; rw [if_neg (by omega)]
                  omega
                have HNY := Lib.hid hnyv
                clear hcode hlt2 hroom hpk hnyv hm
                generalize codeF F i = y at *
                have HST1 := Lib.hid hst1
                have HST2 := Lib.hid hst2
                have hyw : IntKind.i64.wrap (y + 1) = y + 1 := IntWalk.i64_in _ ⟨by omega, by omega⟩
                have hmI : (m : Int) < 16 := by omega
                clear hst1 hst2 hny ho hil
                go_wp2_with (first
                  | (refine wpList_store_slc rfl _ _ rfl rfl H (.int .i64 y) rfl (by kernel_rfl) (by omega) rfl ?_; clear H c1 g0; intro w5 H; rw [HST1.out] at H; have g0 := H.swap.cells m; rw [arr_get (by have := hnl.out; omega), HNY.out] at g0)
                  | (refine wpList_store_int rfl _ _ rfl rfl H.swap rfl (by kernel_rfl) hfit ?_; clear H g0; intro w6 H; rw [HST2.out] at H; replace H := H.swap))
                go_roundw
                case rel => exact ⟨i + 1, _, _, by go_num, by omega, hnl2, hol2, hny2, ho2, H⟩
                case measure => simp [intOf]; omega
              · have hcode : codeF F i = 0 := by unfold codeF; rw [if_neg hpos]
                have ho2 : Hid (∀ s, o.getD s 0 = if s < i + 1 then codeF F s else 0) := Lib.hid (fun s => by
                  rw [ho.out s]
                  by_cases h2 : s < i
                  · rw [if_pos h2, if_pos (by omega)]
                  · rw [if_neg h2]
                    by_cases h3 : s = i
                    · subst h3; rw [if_pos (by omega), hcode]
                    · rw [if_neg (by omega)])
                have hny2 : Hid (∀ j : Nat, 1 ≤ j → j ≤ 15 → ny.getD j 0 = lowF F j + cntL (F.take (i + 1)) j) := Lib.hid (fun j h1 h2 => by
                  rw [cntL_take_succ hil, if_neg (by omega), hny.out j h1 h2]; simp)
                generalize F.getD i 0 = x at *
                clear hcode hny ho hil
                go_wp2_with fail
                go_roundw
                case rel => exact ⟨i + 1, ny, o, by go_num, by omega, hnl, hol, hny2, ho2, H⟩
                case measure => simp [intOf]; omega
            · obtain rfl : i = n := by omega
              have hI : ¬ (i : Int) < (i : Int) := by omega
              have e3 : Hid (o = R) := Lib.hid (by
                rw [← e2.out]
                refine List.ext_getElem (by rw [hol.out, codesF_length, hl.out]) fun s h1 h2 => ?_
                have h3 := ho.out s
                rw [if_pos (by have := hol.out; omega), List.getD_eq_getElem?_getD, List.getElem?_eq_getElem h1] at h3
                have h4 := codesF_get (l := F) (s := s) (by have := hol.out; have := hl.out; omega)
                rw [List.getD_eq_getElem?_getD, List.getElem?_eq_getElem h2] at h4
                exact h3.trans h4.symm)
              clear ho hny
              go_wp2_with fail
              go_ret2
              refine ⟨_, rfl, _, by rw [e1.out]; rfl, ?_⟩
              rw [← e3.out]
              exact ((((H.front 2 rfl).front 2 rfl).drop.drop))
    · rw [if_neg hw] at hlw
      have e1 : Hid (er = 2) := Lib.hid (by rw [← her.out]; unfold cerrF; rw [hZ.out, if_pos rfl, if_neg hw])
      obtain ⟨e2, e3⟩ := HNIL.out (by rw [e1.out]; decide)
      subst e3
      have E2 := Lib.hid e2
      obtain ⟨lf, hlf⟩ : ∃ lf, Hid (leftF (countsF F) = lf) := ⟨_, rfl⟩
      rw [hlf.out] at hlw HL
      have hlf0 : lf < 0 := by omega
      clear e2 hw hlw
      go_wp2_with (refine wpList_load16 rfl _ rfl rfl hcs H ?_)
      refine (HL.out _).mono ?_
      rintro e w3 ⟨_, rfl, rfl, H1⟩
      have H := H.join H1
      clear H1
      go_wp2_with fail
      go_ret2
      refine ⟨_, rfl, _, by rw [e1.out]; rfl, ?_⟩
      rw [E2.out]
      exact H.bare.nil 3 1
end Go.Proofs.Ytnebacnmbigaaaa
/- huff: the walk of the document's Weight. -/
namespace Go.Proofs.Ytnebacnmbigaaaa
open Go.RowKit

set_option maxHeartbeats 800000 in
theorem rweight_any {w : World} {v : Value} {n : Nat} {F : List Int} (hr : Rd w 1 v n (nums F)) (hn : n ≤ 1000000) (hF : ∀ x ∈ F, 0 ≤ x ∧ x ≤ 15) :
    Calls Try.prog 101 #[v] w (Ret fun r w' => r = .int .i64 (sumF wtF F) ∧ Own w w' []) := by
  have hl := Lib.hid (rd_len hr)
  obtain ⟨a, c, rfl, hc1, hc2⟩ := hr.shape
  have HR := Lib.hid hr
  have HF := Lib.hid hF
  have H := Own.start w
  obtain ⟨Z, hZ⟩ : ∃ Z, Hid (sumF wtF F = Z) := ⟨_, rfl⟩
  rw [hZ.out]
  clear hr hF
  go_enter Try.func101, Try.ntmps101
  go_wp2_with fail
  go_loopw [3, 4] (fun s3 s4 wx => ∃ i : Nat, s4 = .int .i64 i ∧ i ≤ n ∧ s3 = .int .i64 (sumF wtF (F.take i)) ∧ Own w wx []) (fun _ s4 _ => n - (intOf s4).toNat)
  case atStart => exact ⟨0, by go_num, by omega, by simp [sumF], H⟩
  case round =>
    clear H
    obtain ⟨i, rfl, hi, rfl, H⟩ := hrel
    have hb := sum_bounds (f := wtF) (F := F.take i) (B := 16384) (fun x hx => wtF_bounds (HF.out x (List.mem_of_mem_take hx)))
    have hll : (F.take i).length ≤ 1000000 := by rw [List.length_take]; omega
    have hb1 : 0 ≤ sumF wtF (F.take i) := hb.1
    have hb2 : sumF wtF (F.take i) ≤ 16384000000 := by have := hb.2; omega
    clear hb hll
    by_cases hlt : i < n
    · have hs := sum_take_succ (f := wtF) (F := F) (i := i) (by have := hl.out; omega)
      have hx := HF.out (F.getD i 0) (by
        rw [List.getD_eq_getElem?_getD, List.getElem?_eq_getElem (by have := hl.out; omega)]
        exact List.getElem_mem _)
      obtain ⟨b, o, rfl, c1⟩ := rd_at HR.out H hlt
      generalize F.getD i 0 = x at *
      obtain ⟨q, hq⟩ : ∃ q, Hid (sumF wtF (F.take i) = q) := ⟨_, rfl⟩
      have hI : (i : Int) < (n : Int) := by omega
      obtain ⟨m, rfl⟩ : ∃ m : Nat, x = m := ⟨x.toNat, by omega⟩
      rw [hq.out] at hb1 hb2 hs ⊢
      have hwb := wtF_bounds hx
      by_cases hpos : 0 < (m : Int)
      · have hw : wtF m = 2 ^ (15 - m) := by unfold wtF; rw [if_pos hpos]; rfl
        have hd : IntKind.i64.wrap (15 - (m : Int)) = ((15 - m : Nat) : Int) := by rw [IntWalk.i64_in _ ⟨by omega, by omega⟩]; omega
        obtain ⟨d, hd2⟩ : ∃ d, d = 15 - m := ⟨_, rfl⟩
        rw [← hd2] at hd hw
        rw [hw] at hs hwb
        obtain ⟨p, hp⟩ : ∃ p : Int, (2 : Int) ^ d = p := ⟨_, rfl⟩
        rw [hp] at hs hwb
        have hd15 : min d 64 = d := by omega
        clear hw hd2
        have HP := Lib.hid hp
        clear hp
        have hsw : wrap64 (q + p) = q + p := IntWalk.wrap64_in _ ⟨by omega, by omega⟩
        have hpw : wrap64 ((2 : Int) ^ min d 64) = p := by rw [hd15, HP.out]; exact IntWalk.wrap64_in _ ⟨by omega, by omega⟩
        have HS := Lib.hid hs
        clear hs hd15
        go_wp2_with fail
        go_roundw
        case rel => exact ⟨i + 1, by go_num, by omega, by rw [HS.out], H⟩
        case measure => simp [intOf]; omega
      · have hw : wtF m = 0 := by unfold wtF; rw [if_neg hpos]
        rw [hw, Int.add_zero] at hs
        have HS := Lib.hid hs
        clear hs hw
        go_wp2_with fail
        go_roundw
        case rel => exact ⟨i + 1, by go_num, by omega, by rw [HS.out], H⟩
        case measure => simp [intOf]; omega
    · obtain rfl : i = n := by omega
      have e : Hid (F.take i = F) := Lib.hid (List.take_of_length_le (by have := hl.out; omega))
      rw [e.out, hZ.out] at hb1 hb2 ⊢
      go_wp2
      go_ret
      exact ⟨_, rfl, rfl, H⟩
end Go.Proofs.Ytnebacnmbigaaaa
/- huff: the walk of the document's May. -/
namespace Go.Proofs.Ytnebacnmbigaaaa
open Go.RowKit

set_option maxHeartbeats 800000 in
theorem rmay_any {w : World} {v : Value} {n : Nat} {F : List Int} (hr : Rd w 1 v n (nums F)) (hn : n ≤ 1000000) :
    Calls Try.prog 100 #[v] w (Ret fun r w' => r = .bool (mayF F) ∧ Own w w' []) := by
  have hl := Lib.hid (rd_len hr)
  obtain ⟨a, c, rfl, hc1, hc2⟩ := hr.shape
  have HR := Lib.hid hr
  have H := Own.start w
  obtain ⟨Z, hZ⟩ : ∃ Z, Hid (mayF F = Z) := ⟨_, rfl⟩
  rw [hZ.out]
  clear hr
  go_enter Try.func100, Try.ntmps100
  go_wp2_with fail
  go_loopw [3] (fun s3 wx => ∃ i : Nat, s3 = .int .i64 i ∧ i ≤ n ∧ i ≤ 321 ∧ Hid ((F.take i).all okLen = true) ∧ Own w wx []) (fun s3 _ => n - (intOf s3).toNat)
  case atStart => exact ⟨0, by go_num, by omega, by omega, Lib.hid rfl, H⟩
  case round =>
    clear H
    obtain ⟨i, rfl, hi, hi2, hal, H⟩ := hrel
    by_cases hlt : i < n
    · have hI : (i : Int) < (n : Int) := by omega
      by_cases h320 : i ≤ 320
      · have h320I : (i : Int) ≤ 320 := by omega
        have hs := all_take_succ (p := okLen) (F := F) (i := i) (by have := hl.out; omega)
        obtain ⟨b, o, rfl, c1⟩ := rd_at HR.out H hlt
        have hbad : okLen (F.getD i 0) = false → Hid (Z = false) := fun h => Lib.hid (by
          rw [← hZ.out]
          unfold mayF
          have : F.all okLen = false := by
            rw [List.all_eq_false]
            refine ⟨F.getD i 0, ?_, by rw [h]; simp⟩
            rw [List.getD_eq_getElem?_getD, List.getElem?_eq_getElem (by have := hl.out; omega)]
            exact List.getElem_mem _
          rw [this, Bool.and_false])
        rw [hal.out, Bool.true_and] at hs
        generalize F.getD i 0 = x at *
        by_cases h0 : x < 0
        · have e := hbad (by simp [okLen]; omega)
          clear hs hbad
          go_wp2
          go_ret
          exact ⟨_, rfl, by rw [e.out]; rfl, H⟩
        · by_cases h15 : 15 < x
          · have e := hbad (by simp [okLen]; omega)
            clear hs hbad
            go_wp2
            go_ret
            exact ⟨_, rfl, by rw [e.out]; rfl, H⟩
          · have e : Hid ((F.take (i + 1)).all okLen = true) := Lib.hid (by rw [hs]; simp [okLen]; omega)
            clear hs hbad
            go_wp2_with fail
            go_roundw
            case rel => exact ⟨i + 1, by go_num, by omega, by omega, e, H⟩
            case measure => simp [intOf]; omega
      · have h320I : ¬ (i : Int) ≤ 320 := by omega
        have e : Hid (Z = false) := Lib.hid (by
          rw [← hZ.out]; unfold mayF
          have := hl.out
          rw [decide_eq_false (by omega), Bool.false_and])
        have hn2 : ¬ (n : Int) ≤ 320 := by omega
        go_wp2
        go_ret
        exact ⟨_, rfl, by rw [e.out]; rfl, H⟩
    · obtain rfl : i = n := by omega
      have hI : ¬ (i : Int) < (i : Int) := by omega
      have e : Hid (Z = decide (i ≤ 320)) := Lib.hid (by
        rw [← hZ.out]; unfold mayF
        have h1 := hal.out
        rw [List.take_of_length_le (by have := hl.out; omega)] at h1
        rw [h1, Bool.and_true, hl.out])
      by_cases h320 : i ≤ 320
      · have h320I : (i : Int) ≤ 320 := by omega
        have e2 : Hid (Z = true) := Lib.hid (by rw [e.out]; simp [h320])
        go_wp2
        go_ret
        exact ⟨_, rfl, by rw [e2.out]; rfl, H⟩
      · have h320I : ¬ (i : Int) ≤ 320 := by omega
        have e2 : Hid (Z = false) := Lib.hid (by rw [e.out]; simp [h320])
        go_wp2
        go_ret
        exact ⟨_, rfl, by rw [e2.out]; rfl, H⟩
end Go.Proofs.Ytnebacnmbigaaaa
/- huff: the walk of the document's Codes. -/
namespace Go.Proofs.Ytnebacnmbigaaaa
open Go.RowKit


set_option maxRecDepth 100000 in
set_option maxHeartbeats 6400000 in
theorem rcodes_any {w : World} {v : Value} {n : Nat} {F : List Int} (hr : Rd w 1 v n (nums F)) (hn : n ≤ 1000000) :
    Calls Try.prog 98 #[v] w (Ret fun r w' => ∃ ov, r = .tuple #[ov, .int .i64 (cerrF F)] ∧ Own w w' [slc 3 1 ov (cresF F).length (nums (cresF F))]) := by
  have hl := Lib.hid (rd_len hr)
  obtain ⟨a, c, rfl, hc1, hc2⟩ := hr.shape
  have HR := Lib.hid hr
  obtain ⟨er, her⟩ : ∃ er, Hid (cerrF F = er) := ⟨_, rfl⟩
  obtain ⟨R, hRes⟩ : ∃ R, Hid (cresF F = R) := ⟨_, rfl⟩
  rw [her.out, hRes.out]
  obtain ⟨RL, hRL⟩ : ∃ RL, Hid (R.length = RL) := ⟨_, rfl⟩
  rw [hRL.out]
  obtain ⟨Z, hZ⟩ : ∃ Z, Hid (mayF F = Z) := ⟨_, rfl⟩
  have HC := Lib.hid (rmay_any hr hn)
  rw [hZ.out] at HC
  have hnil : er ≠ 0 → R = [] ∧ RL = 0 := fun h => by
    have : R = [] := by rw [← hRes.out]; unfold cresF; rw [her.out, if_neg h]
    exact ⟨this, by rw [← hRL.out, this]; rfl⟩
  have HNIL := Lib.hid hnil
  have HW := Lib.hid (fun (h : ∀ x ∈ F, 0 ≤ x ∧ x ≤ 15) w' (h1 : Own w w' []) => rweight_any (hr.old h1) hn h)
  clear hnil hr
  go_enter Try.func98, Try.ntmps98
  go_wp2_with fail
  refine HC.out.mono ?_
  rintro e w1 ⟨_, rfl, rfl, H⟩
  clear HC
  cases Z with
  | false =>
    have e1 : Hid (er = 1) := Lib.hid (by rw [← her.out]; unfold cerrF; rw [hZ.out]; rfl)
    obtain ⟨e2, e3⟩ := HNIL.out (by rw [e1.out]; decide)
    subst e3
    have E2 := Lib.hid e2
    clear e2
    go_wp2_with fail
    go_ret2
    refine ⟨_, rfl, _, by rw [e1.out]; rfl, ?_⟩
    rw [E2.out]
    exact H.bare.nil 3 1
  | true =>
    have hm := mayF_len hZ.out
    have HF := Lib.hid hm.2
    have hn3 : n ≤ 320 := by have := hm.1; have := hl.out; omega
    have HW2 := Lib.hid (HW.out hm.2 w1 H)
    obtain ⟨wt, hwt⟩ : ∃ wt, Hid (sumF wtF F = wt) := ⟨_, rfl⟩
    rw [hwt.out] at HW2
    clear hm HW
    by_cases hw : wt ≤ 32768
    · have e1 : Hid (er = 0) := Lib.hid (by rw [← her.out]; unfold cerrF; rw [hZ.out, if_pos rfl, hwt.out, if_pos (show wt ≤ 2 ^ 15 by omega)])
      have e2 : Hid (codesF F = R) := Lib.hid (by rw [← hRes.out]; unfold cresF; rw [her.out, e1.out]; rfl)
      have hRl : n = RL := by rw [← hRL.out, ← e2.out, codesF_length]; exact hl.out.symm
      subst hRl
      have hwI : ¬ (32768 : Int) < wt := by omega
      go_wp2_with fail
      refine HW2.out.mono ?_
      rintro e w2 ⟨_, rfl, rfl, H1⟩
      have H := (H.join H1).nil 3 1
      clear H1 HW2
      go_wp2_with fail
      go_loopw [4, 5] (fun s4 s5 wx => ∃ s : Nat, s5 = .int .i64 s ∧ s ≤ n ∧ Own w wx [slc 3 1 s4 s (nums ((codesF F).take s))]) (fun _ s5 _ => n - (intOf s5).toNat)
      case atStart => exact ⟨0, by go_num, by omega, by simpa [nums] using H⟩
      case round =>
        clear H
        obtain ⟨s, rfl, hs, H⟩ := hrel
        by_cases hlt : s < n
        · have hsI : (s : Int) < (n : Int) := by omega
          have hsl : s < F.length := by have := hl.out; omega
          obtain ⟨b, o, rfl, c1⟩ := rd_at HR.out H hlt
          have hy := HF.out (F.getD s 0) (by
            rw [List.getD_eq_getElem?_getD, List.getElem?_eq_getElem hsl]
            exact List.getElem_mem _)
          have hct := codes_take_succ hsl
          by_cases h0 : F.getD s 0 = 0
          · have hcode : codeF F s = 0 := by unfold codeF; rw [if_neg (by omega)]
            rw [hcode] at hct
            have hst : nums ((codesF F).take s) ++ [.int .i64 0] = nums ((codesF F).take (s + 1)) := by rw [hct]; simp [nums]
            have HST := Lib.hid hst
            rw [h0] at c1
            clear hst hct hcode h0 hy
            go_wp2_with (at_builtin; refine wpList_append_one rfl _ _ rfl Try.underlying31 intInfo rfl (by decide) rfl H (news := [.int .i64 0]) rfl rfl rfl (by simp [Value.oneCell']) (by omega) (by omega) ?_; clear H c1; intro v' w' H; rw [HST.out] at H)
            go_roundw
            case rel => exact ⟨s + 1, by go_num, by omega, H⟩
            case measure => simp [intOf]; omega
          · have hpos : 0 < F.getD s 0 := by omega
            have hsh := bef_shift HF.out hsl hpos
            obtain ⟨m, hm⟩ : ∃ m : Nat, F.getD s 0 = m := ⟨(F.getD s 0).toNat, by omega⟩
            have hst : nums ((codesF F).take s) ++ [.int .i64 (codeF F s)] = nums ((codesF F).take (s + 1)) := by rw [hct]; simp [nums]
            have HST := Lib.hid hst
            have hm1 : 1 ≤ m := by omega
            have hm2 : m ≤ 15 := by omega
            have HM := Lib.hid hm
            rw [hm] at c1 hsh
            rw [Int.toNat_natCast, hl.out] at hsh
            have HSH := Lib.hid hsh
            have hmz : ((m : Int) == 0) = false := by simp; omega
            clear hst hct h0 hy hpos hm hsh
            go_wp2_with fail
            go_loopw [6, 7] (fun s6 s7 wx => ∃ t : Nat, s7 = .int .i64 t ∧ t ≤ n ∧ s6 = .int .i64 (befN F s t) ∧ Own w wx [slc 3 1 u4 s (nums ((codesF F).take s))]) (fun _ s7 _ => n - (intOf s7).toNat)
            case atStart => exact ⟨0, by go_num, by omega, by simp [befN], H⟩
            case round =>
              clear H c1
              obtain ⟨t, rfl, ht, rfl, H⟩ := hrel
              by_cases htn : t < n
              · have htI : (t : Int) < (n : Int) := by omega
                have g : ∀ (ps' : List Piece) (w' : World), Own w w' ps' → w'.cell? ⟨b, o + s, none⟩ = some (.int .i64 m) ∧ w'.cell? ⟨b, o + t, none⟩ = some (.int .i64 (F.getD t 0)) := fun ps' w' h => by
                  obtain ⟨b1, o1, he, h1⟩ := rd_at HR.out h hlt
                  obtain ⟨b2, o2, he2, h2⟩ := rd_at HR.out h htn
                  cases he; cases he2
                  rw [HM.out] at h1
                  exact ⟨h1, h2⟩
                have hbl : Hid (befN F s (t + 1) = befN F s t + befT F s t) := Lib.hid rfl
                have hbt : befT F s t = if 0 < F.getD t 0 ∧ (F.getD t 0 < (m : Int) ∨ F.getD t 0 = (m : Int) ∧ t < s) then 2 ^ (15 - (F.getD t 0).toNat) else 0 := by unfold befT; rw [HM.out]
                have hx := HF.out (F.getD t 0) (by
                  rw [List.getD_eq_getElem?_getD, List.getElem?_eq_getElem (by have := hl.out; omega)]
                  exact List.getElem_mem _)
                have hbb := befN_bounds (l := F) HF.out s t
                have hbb2 := befT_bounds (l := F) HF.out s t
                generalize F.getD t 0 = x at *
                generalize befT F s t = z at *
                obtain ⟨q, hq⟩ : ∃ q, Hid (befN F s t = q) := ⟨_, rfl⟩
                rw [hq.out] at hbb hbl ⊢
                obtain ⟨bb, hbbE⟩ : ∃ bb, decide (0 < x ∧ (x < (m : Int) ∨ x = (m : Int) ∧ t < s)) = bb := ⟨_, rfl⟩
                have HBB := Lib.hid hbbE
                have G := Lib.hid g
                have HBT := Lib.hid hbt
                clear g hbt hbbE
                go_upto_region 15 with (fail)
                go_cut [65] (fun s65 wx => s65 = .bool bb ∧ Own w wx [slc 3 1 u4 s (nums ((codesF F).take s))])
                case first =>
                  have hb := HBB.out
                  by_cases g1 : 0 < x
                  case' neg =>
                    have e : Hid (bb = false) := Lib.hid (by rw [← hb]; simp; omega)
                  case' pos =>
                    by_cases g2 : x < (m : Int)
                    case' pos =>
                      have e : Hid (bb = true) := Lib.hid (by rw [← hb]; simp; omega)
                    case' neg =>
                      by_cases g3 : x = (m : Int)
                      case' neg =>
                        have g4 : (x == (m : Int)) = false := by simp; omega
                        have e : Hid (bb = false) := Lib.hid (by rw [← hb]; simp; omega)
                      case' pos =>
                        have g4 : ((m : Int) == (m : Int)) = true := by simp
                        subst g3
                        have hmp : 0 < m := by omega
                        by_cases g5 : t < s
                        case' pos =>
                          have g5I : (t : Int) < (s : Int) := by omega
                          have e : Hid (bb = true) := Lib.hid (by rw [← hb]; simp; omega)
                        case' neg =>
                          have g5I : ¬ (t : Int) < (s : Int) := by omega
                          have e : Hid (bb = false) := Lib.hid (by rw [← hb]; simp; omega)
                  all_goals
                    clear hb
                    refine wp_region_calm (fun w1 => Own w w1 [slc 3 1 u4 s (nums ((codesF F).take s))]) 31 (by kernel_rfl) (by kernel_rfl) H.drew ?_
                    simp only [List.take_succ_cons, List.take_zero, List.drop_succ_cons, List.drop_zero]
                    repeat
                      first
                      | (refine calm_value (v := ?_) (by decide) rfl (fun σ w1 hS => ?_) ?_
                         rotate_left
                         · obtain ⟨c0, c1⟩ := G.out _ _ hS
                           first | (go_simp; rfl) | rfl
                         simp only [Act.put, List.setIfInBounds_toArray, List.set_cons_zero, List.set_cons_succ])
                      | (refine calm_skip (by decide) rfl ?_
                         simp only [Act.put, List.setIfInBounds_toArray, List.set_cons_zero, List.set_cons_succ])
                    refine calm_nil ?_
                    intro wd HD
                    go_wp2_with fail
                    go_meet
                    exact ⟨by rw [e.out]; try rfl, HD⟩
                case rest =>
                  clear H
                  obtain ⟨rfl, H⟩ := hcut
                  obtain ⟨c0, c1⟩ := G.out _ _ H
                  cases bb with
                  | true =>
                    obtain ⟨k, rfl⟩ : ∃ k : Nat, x = k := ⟨x.toNat, by omega⟩
                    have hd : IntKind.i64.wrap (15 - (k : Int)) = ((15 - k : Nat) : Int) := by rw [IntWalk.i64_in _ ⟨by omega, by omega⟩]; omega
                    obtain ⟨d, hd2⟩ : ∃ d, d = 15 - k := ⟨_, rfl⟩
                    rw [← hd2] at hd
                    have hd15 : min d 64 = d := by omega
                    have HBT2 : Hid ((2 : Int) ^ d = z) := Lib.hid (by
                      have hb := HBB.out
                      have hbt := HBT.out
                      rw [if_pos (by simpa using hb), Int.toNat_natCast, ← hd2] at hbt
                      exact hbt.symm)
                    clear hd2
                    have hsw : wrap64 (q + z) = q + z := IntWalk.wrap64_in _ ⟨by omega, by omega⟩
                    have hpw : wrap64 ((2 : Int) ^ min d 64) = z := by rw [hd15, HBT2.out]; exact IntWalk.wrap64_in _ ⟨by omega, by omega⟩
                    clear hd15 hbb hbb2 hx
                    go_wp2_with fail
                    go_roundw
                    case rel => exact ⟨t + 1, by go_num, by omega, by rw [hbl.out]; exact val_int hsw, H⟩
                    case measure => simp [intOf]; omega
                  | false =>
                    have hz0 : z = 0 := by
                      have hb := HBB.out
                      have hbt := HBT.out
                      rw [if_neg (by simpa using hb)] at hbt
                      exact hbt
                    have hbl2 : Hid (befN F s (t + 1) = q) := Lib.hid (by rw [hbl.out, hz0, Int.add_zero])
                    clear hz0 hbl
                    go_wp2_with fail
                    go_roundw
                    case rel => exact ⟨t + 1, by go_num, by omega, by rw [hbl2.out], H⟩
                    case measure => simp [intOf]; omega
              · obtain rfl : t = n := by omega
                have htI : ¬ (t : Int) < (t : Int) := by omega
                obtain ⟨b1, o1, he, c1⟩ := rd_at HR.out H hlt
                cases he
                rw [HM.out] at c1
                have hbb := befN_bounds (l := F) HF.out s t
                have hd : IntKind.i64.wrap (15 - (m : Int)) = ((15 - m : Nat) : Int) := by rw [IntWalk.i64_in _ ⟨by omega, by omega⟩]; omega
                obtain ⟨q, hq⟩ : ∃ q, Hid (befN F s t = q) := ⟨_, rfl⟩
                rw [hq.out] at hbb HSH ⊢
                obtain ⟨d, hd2⟩ : ∃ d, d = 15 - m := ⟨_, rfl⟩
                rw [← hd2] at hd HSH
                have hd63 : d < 64 := by omega
                have hdI : (d : Int) < 64 := by omega
                clear hd2 hbb hs hm1 hm2
                go_wp2_with (at_builtin; rw [HSH.out]; refine wpList_append_one rfl _ _ rfl Try.underlying31 intInfo rfl (by decide) rfl H (news := [.int .i64 (codeF F s)]) rfl rfl rfl (by simp [Value.oneCell']) (by omega) (by omega) ?_; clear H c1; intro v' w' H; rw [HST.out] at H)
                go_roundw
                case rel => exact ⟨s + 1, by go_num, by omega, H⟩
                case measure => simp [intOf]; omega
        · obtain rfl : s = n := by omega
          have hsI : ¬ (s : Int) < (s : Int) := by omega
          rw [List.take_of_length_le (by rw [codesF_length]; have := hl.out; omega), e2.out] at H
          go_wp2_with fail
          go_ret2
          exact ⟨_, rfl, _, by rw [e1.out]; rfl, H⟩
    · have e1 : Hid (er = 2) := Lib.hid (by rw [← her.out]; unfold cerrF; rw [hZ.out, if_pos rfl, hwt.out, if_neg (show ¬ wt ≤ 2 ^ 15 by omega)])
      obtain ⟨e2, e3⟩ := HNIL.out (by rw [e1.out]; decide)
      subst e3
      have E2 := Lib.hid e2
      have hwI : (32768 : Int) < wt := by omega
      clear e2
      go_wp2_with fail
      refine HW2.out.mono ?_
      rintro e w2 ⟨_, rfl, rfl, H1⟩
      have H := (H.join H1)
      clear H1 HW2
      go_wp2_with fail
      go_ret2
      refine ⟨_, rfl, _, by rw [e1.out]; rfl, ?_⟩
      rw [E2.out]
      exact H.bare.nil 3 1
end Go.Proofs.Ytnebacnmbigaaaa
/- huff: the walks of the document's plain functions. -/
namespace Go.Proofs.Ytnebacnmbigaaaa
open Go.RowKit



theorem rused_any {w : World} {v : Value} {n : Nat} {F : List Int} (hr : Rd w 1 v n (nums F)) (hn : n ≤ 1000000) :
    Calls Try.prog 102 #[v] w (Ret fun r w' => r = .int .i64 (usedF F).length ∧ Own w w' []) := by
  have hl := Lib.hid (rd_len hr)
  obtain ⟨a, c, rfl, hc1, hc2⟩ := hr.shape
  have HR := Lib.hid hr
  have H := Own.start w
  obtain ⟨Z, hZ⟩ : ∃ Z, Hid ((usedF F).length = Z) := ⟨_, rfl⟩
  rw [hZ.out]
  clear hr
  go_enter Try.func102, Try.ntmps102
  go_wp2_with fail
  go_loopw [3, 4] (fun s3 s4 wx => ∃ i : Nat, s4 = .int .i64 i ∧ i ≤ n ∧ s3 = .int .i64 (usedN F i).length ∧ Own w wx []) (fun _ s4 _ => n - (intOf s4).toNat)
  case atStart => exact ⟨0, by go_num, by omega, by simp [usedN], H⟩
  case round =>
    clear H
    obtain ⟨i, rfl, hi, rfl, H⟩ := hrel
    have hu := usedN_length F i
    by_cases hlt : i < n
    · obtain ⟨b, o, rfl, c1⟩ := rd_at HR.out H hlt
      have hus : usedN F (i + 1) = if 0 < F.getD i 0 then usedN F i ++ [(i : Int)] else usedN F i := rfl
      obtain ⟨x, hx⟩ : ∃ x, Hid (F.getD i 0 = x) := ⟨_, rfl⟩
      obtain ⟨q, hq⟩ : ∃ q, Hid ((usedN F i).length = q) := ⟨_, rfl⟩
      rw [hx.out] at c1 hus
      have hI : (i : Int) < (n : Int) := by omega
      by_cases hpos : 0 < x
      · have HU : Hid ((usedN F (i + 1)).length = q + 1) := Lib.hid (by rw [hus, if_pos hpos, List.length_append, hq.out]; rfl)
        rw [hq.out] at hu ⊢
        clear hus
        go_wp2_with fail
        go_roundw
        case rel => exact ⟨i + 1, by go_num, by omega, by rw [HU.out]; go_num, H⟩
        case measure => simp [intOf]; omega
      · have HU : Hid ((usedN F (i + 1)).length = q) := Lib.hid (by rw [hus, if_neg hpos, hq.out])
        rw [hq.out] at hu ⊢
        clear hus
        go_wp2_with fail
        go_roundw
        case rel => exact ⟨i + 1, by go_num, by omega, by rw [HU.out], H⟩
        case measure => simp [intOf]; omega
    · obtain rfl : i = n := by omega
      have e : Hid ((usedN F i).length = (usedF F).length) := Lib.hid (by unfold usedF; rw [hl.out])
      rw [e.out, hZ.out] at hu ⊢
      go_wp2
      go_ret
      exact ⟨_, rfl, rfl, H⟩

end Go.Proofs.Ytnebacnmbigaaaa
/- huff: the walks of New and of the document's MayTable. -/
namespace Go.Proofs.Ytnebacnmbigaaaa
open Go.RowKit

/-- A table of lengths. -/
def Tbl (g : Nat) (l : List Int) : Piece := ex fun v => star (blk g (.cells ((nums (countsF l)).toArray.push v) 127)) (slc 3 1 v (tsymsF l).length (nums (natI (tsymsF l))))

set_option maxHeartbeats 1600000 in
theorem rmaytable_any {w : World} {v : Value} {n : Nat} {F : List Int} (hr : Rd w 1 v n (nums F)) (hn : n ≤ 1000000) :
    Calls Try.prog 86 #[v] w (Ret fun r w' => r = .int .i64 (terrF F) ∧ Own w w' []) := by
  have hl := Lib.hid (rd_len hr)
  obtain ⟨a, c, rfl, hc1, hc2⟩ := hr.shape
  have HR := Lib.hid hr
  have H := Own.start w
  obtain ⟨er, her⟩ : ∃ er, Hid (terrF F = er) := ⟨_, rfl⟩
  rw [her.out]
  obtain ⟨Z, hZ⟩ : ∃ Z, Hid (mayF F = Z) := ⟨_, rfl⟩
  clear hr
  go_enter Try.func86, Try.ntmps86
  go_wp2_with fail
  refine (rmay_any (HR.out.old H) hn).mono ?_
  rintro e w1 ⟨_, rfl, rfl, H1⟩
  have H := H.join H1
  clear H1
  rw [hZ.out]
  cases Z with
  | false =>
    have e1 : Hid (er = 1) := Lib.hid (by rw [← her.out]; unfold terrF; rw [hZ.out]; rfl)
    go_wp2_with fail
    go_ret
    exact ⟨_, rfl, by rw [e1.out]; rfl, H⟩
  | true =>
    have hm := mayF_len hZ.out
    go_wp2_with fail
    refine (rweight_any (HR.out.old H) hn hm.2).mono ?_
    rintro e w2 ⟨_, rfl, rfl, H1⟩
    have H := H.join H1
    clear H1
    go_wp2_with fail
    refine (rused_any (HR.out.old H) hn).mono ?_
    rintro e w3 ⟨_, rfl, rfl, H1⟩
    have H := H.join H1
    clear H1
    have her2 : er = if sumF wtF F = 32768 ∨ (usedF F).length = 0 ∨ (usedF F).length = 1 ∧ sumF wtF F = 16384 then 0 else 2 := by rw [← her.out]; unfold terrF; rw [hZ.out, if_pos rfl]
    generalize sumF wtF F = wt at *
    generalize (usedF F).length = u at *
    clear hm
    have fin : (er = 0 ∧ (wt = 32768 ∨ u = 0 ∨ u = 1 ∧ wt = 16384)) ∨ (er = 2 ∧ wt ≠ 32768 ∧ u ≠ 0 ∧ ¬ (u = 1 ∧ wt = 16384)) := by
      by_cases h : wt = 32768 ∨ u = 0 ∨ u = 1 ∧ wt = 16384
      · exact .inl ⟨by rw [her2, if_pos h], h⟩
      · exact .inr ⟨by rw [her2, if_neg h], by omega, by omega, by omega⟩
    clear her2
    rcases fin with ⟨h0, h⟩ | ⟨h0, h1, h2, h3⟩
    · have e0 := Lib.hid h0
      clear h0
      by_cases g1 : wt = 32768
      · subst g1
        clear h
        go_wp2_with fail
        go_ret
        exact ⟨_, rfl, by rw [e0.out]; rfl, H⟩
      · have g1b : (wt == 32768) = false := by simpa using g1
        by_cases g2 : u = 0
        · subst g2
          clear h
          go_wp2_with fail
          go_ret
          exact ⟨_, rfl, by rw [e0.out]; rfl, H⟩
        · have g2b : ((u : Int) == 0) = false := by simp; omega
          obtain ⟨rfl, rfl⟩ : u = 1 ∧ wt = 16384 := by omega
          clear h
          go_wp2_with fail
          go_ret
          exact ⟨_, rfl, by rw [e0.out]; rfl, H⟩
    · have e0 := Lib.hid h0
      clear h0
      have g1b : (wt == 32768) = false := by simpa using h1
      have g2b : ((u : Int) == 0) = false := by simp; omega
      by_cases g3 : u = 1
      · subst g3
        have g4 : (wt == 16384) = false := by simp; omega
        clear h1 h2 h3
        go_wp2_with fail
        go_ret
        exact ⟨_, rfl, by rw [e0.out]; rfl, H⟩
      · have g3b : ((u : Int) == 1) = false := by simp; omega
        clear h1 h2 h3
        go_wp2_with fail
        go_ret
        exact ⟨_, rfl, by rw [e0.out]; rfl, H⟩
end Go.Proofs.Ytnebacnmbigaaaa
/- huff: the walk of New. -/
namespace Go.Proofs.Ytnebacnmbigaaaa
open Go.RowKit

theorem build16 {cs : List Int} (h : cs.length = 16) (z : Value) :
    List.foldl (fun (cs : Array Value) (x : Value × Nat) => cs.setIfInBounds x.snd x.fst) #[.int .i64 0, .int .i64 0, .int .i64 0, .int .i64 0, .int .i64 0, .int .i64 0, .int .i64 0, .int .i64 0, .int .i64 0, .int .i64 0, .int .i64 0, .int .i64 0, .int .i64 0, .int .i64 0, .int .i64 0, .int .i64 0, z] (nums cs).zipIdx = (nums cs).toArray.push z := by
  match cs, h with
  | [c0, c1, c2, c3, c4, c5, c6, c7, c8, c9, c10, c11, c12, c13, c14, c15], _ => simp [nums, List.zipIdx]
theorem cells17 (cs : List Int) (z : Value) (h : cs.length = 16) (i : Nat) (hi : i < 16) : ((nums cs).toArray.push z)[i]? = some (.int .i64 (cs.getD i 0)) := by
  rw [Array.getElem?_push, if_neg (by rw [List.size_toArray, nums_length]; omega)]
  exact arr_get (by omega)
theorem cell16 (cs : List Int) (z : Value) (h : cs.length = 16) : ((nums cs).toArray.push z)[16]? = some z := by
  rw [Array.getElem?_push, if_pos (by rw [List.size_toArray, nums_length]; omega)]
theorem set16 (cs : List Int) (y z : Value) (h : cs.length = 16) : ((nums cs).toArray.push y).setIfInBounds 16 z = (nums cs).toArray.push z := by
  match cs, h with
  | [c0, c1, c2, c3, c4, c5, c6, c7, c8, c9, c10, c11, c12, c13, c14, c15], _ => simp [nums]

/-- A table's cells. -/
def tcells (F : List Int) (v : Value) : Array Value := (nums (countsF F)).toArray.push v

/-! ### how many are in use -/

set_option maxRecDepth 100000 in
set_option maxHeartbeats 6400000 in
theorem hnew_any {w : World} {v : Value} {n : Nat} {F : List Int} (hr : Rd w 1 v n (nums F)) (hn : n ≤ 1000000) :
    Calls Try.prog 56 #[v] w (Ret fun r w' => ∃ pv, r = .tuple #[pv, .int .i64 (terrF F)] ∧ (terrF F ≠ 0 → pv = .pointer none ∧ Own w w' []) ∧ (terrF F = 0 → ∃ g, pv = .pointer (some ⟨g, 0, none⟩) ∧ Own w w' [Tbl g F])) := by
  have hl := Lib.hid (rd_len hr)
  obtain ⟨a, c, rfl, hc1, hc2⟩ := hr.shape
  have HR := Lib.hid hr
  obtain ⟨er, her⟩ : ∃ er, Hid (terrF F = er) := ⟨_, rfl⟩
  rw [her.out]
  obtain ⟨Z, hZ⟩ : ∃ Z, Hid (mayF F = Z) := ⟨_, rfl⟩
  have HC := Lib.hid (counts_any hr hn)
  rw [hZ.out] at HC
  clear hr
  have hzl : (zerosF 16).length = 16 := by simp [zerosF]
  go_enter Try.func56, Try.ntmps56
  go_wp2_with fail
  refine HC.out.mono ?_
  rintro e w1 ⟨_, rfl, ⟨cs, hcs, rfl, hcs2⟩, H1⟩
  have HCS := Lib.hid hcs2
  have H := H1.alloc (.cells (nums (zerosF 16)).toArray 77)
  rw [arr_zero] at H
  clear hcs2 HC H1
  go_upto_region 2 with (first
    | (generalize w1.alloc _ = wa at *; rw [← arr_zero] at H; generalize w1.heap.size = cb at *; refine wpList_store16 rfl _ _ rfl rfl hzl hcs H rfl ?_; clear H; intro w2 H))
  cases Z with
  | false =>
    have e1 : Hid (er = 1) := Lib.hid (by rw [← her.out]; unfold terrF; rw [hZ.out]; rfl)
    go_wp2_with fail
    go_ret2
    refine ⟨_, rfl, _, by rw [e1.out]; rfl, fun _ => ⟨rfl, H.bare⟩, fun h => by rw [e1.out] at h; cases h⟩
  | true =>
    have hm := mayF_len hZ.out
    have hcs2 := HCS.out rfl
    subst hcs2
    have HF := Lib.hid hm.2
    have hn3 : n ≤ 320 := by have := hm.1; have := hl.out; omega
    clear hm HCS
    have hsz : (nums (countsF F)).length = 16 := by rw [nums_length]; exact hcs
    have hsz2 : (nums (countsF F)).toArray.size = 16 := by rw [List.size_toArray]; exact hsz
    go_upto_region 5 with (refine wpList_load16 rfl _ rfl rfl hcs H ?_)
    rw [build16 hcs]
    replace H := (H.alloc (.cells ((nums (countsF F)).toArray.push (.slice none 0 0)) 127)).swap.nil 3 1
    generalize w2.alloc (.cells ((nums (countsF F)).toArray.push (.slice none 0 0)) 127) = w3 at *
    generalize w2.heap.size = g at *
    have H : Own w w3 (blk g (.cells ((nums (countsF F)).toArray.push (.slice none 0 0)) 127) :: slc 3 1 (.slice none 0 0) 0 [] :: blk cb (.cells (nums (countsF F)).toArray 77) :: []) := ((H.front 2 rfl))
    clear hsz hsz2
    go_wp2_with fail
    go_loopw [7] (fun s7 wx => ∃ (k q : Nat) (v7 : Value), s7 = .int .i64 ((k : Int) + 1) ∧ k ≤ 15 ∧ Hid (q = lenT (tsymsN F k)) ∧ q ≤ n ∧ Own w wx (blk g (.cells (tcells F v7) 127) :: slc 3 1 v7 q (nums (natI (tsymsN F k))) :: blk cb (.cells (nums (countsF F)).toArray 77) :: [])) (fun s7 _ => 16 - (intOf s7).toNat)
    case atStart => exact ⟨0, 0, .slice none 0 0, by go_num, by omega, Lib.hid rfl, by omega, H⟩
    case round =>
      clear H
      obtain ⟨k, q, v7, rfl, hk, hq, hqn, H⟩ := hrel
      by_cases hlt : k < 15
      · have hkI : (k : Int) + 1 ≤ 15 := by omega
        have hkw : IntKind.i64.wrap ((k : Int) + 1 + 1) = (k : Int) + 1 + 1 := IntWalk.i64_in _ ⟨by omega, by omega⟩
        go_wp2_with fail
        go_loopw [28] (fun s28 wx => ∃ (j q : Nat) (v7 : Value), s28 = .int .i64 j ∧ j ≤ n ∧ Hid (q = lenT (partT F k j)) ∧ q ≤ n + j ∧ Own w wx (blk g (.cells (tcells F v7) 127) :: slc 3 1 v7 q (nums (natI (partT F k j))) :: blk cb (.cells (nums (countsF F)).toArray 77) :: [])) (fun s28 _ => n - (intOf s28).toNat)
        case atStart => exact ⟨0, q, v7, by go_num, by omega, Lib.hid (by rw [hq.out]; simp [partT, symsN]), by omega, by simpa [partT, symsN] using H⟩
        case round =>
          clear H hq hqn
          obtain ⟨j, q, v7, rfl, hj, hq, hqn, H⟩ := hrel
          obtain ⟨a7, c7, rfl, hv1, hv2⟩ := (H.front 1 rfl).rd.shape
          by_cases hjn : j < n
          · have hjI : (j : Int) < (n : Int) := by omega
            obtain ⟨b, oo, rfl, c1⟩ := rd_at HR.out H hjn
            have hs := symsN_succ (l := F) (k + 1) j
            obtain ⟨x, hx⟩ : ∃ x, F.getD j 0 = x := ⟨_, rfl⟩
            rw [hx] at c1 hs
            clear hx
            by_cases hxk : x = (k : Int) + 1
            · subst hxk
              rw [if_pos (by omega)] at hs
              have hxe : ((k : Int) + 1 == (k : Int) + 1) = true := by simp
              have c0 := H.cells 16
              unfold tcells at c0
              rw [cell16 _ _ hcs] at c0
              have HS : Hid (partT F k (j + 1) = partT F k j ++ [j]) := Lib.hid (by unfold partT; rw [hs, List.append_assoc])
              generalize partT F k j = TS at *
              have hq2 : Hid (q + 1 = lenT (partT F k (j + 1))) := Lib.hid (by rw [HS.out, hq.out]; unfold lenT; rw [List.length_append]; rfl)
              have hfit : 16 < (tcells F (.slice a7 q c7)).size := by unfold tcells; rw [Array.size_push, List.size_toArray, nums_length, hcs]; omega
              clear hs
              go_wp2_with (first
                | (at_builtin; refine wpList_append_one rfl _ _ rfl Try.underlying31 intInfo rfl (by decide) rfl (H.front 1 rfl) (news := [.int .i64 j]) rfl rfl rfl (by simp [Value.oneCell']) (by omega) (by omega) ?_; clear H c1 c0; intro v' w' H; rw [natI_snoc] at H; replace H := H.swap; obtain ⟨a8, c8, rfl, -⟩ := H.swap.rd.shape)
                | (refine wpList_store_slice rfl _ _ rfl rfl H rfl (by kernel_rfl) hfit ?_; clear H; intro w5 H; unfold tcells at H; rw [set16 _ _ _ hcs] at H))
              go_roundw
              case rel => exact ⟨_, _, _, ⟨j + 1, by go_num, by omega, q + 1, hq2, by omega, _, by rw [HS.out]; exact H⟩, rfl, rfl, rfl⟩
              case measure => simp [intOf]; omega
            · rw [if_neg (by omega)] at hs
              have hxe : (x == (k : Int) + 1) = false := by simpa using hxk
              have HS : Hid (partT F k (j + 1) = partT F k j) := Lib.hid (by unfold partT; rw [hs])
              clear hs hxk
              go_wp2_with fail
              go_roundw
              case rel => exact ⟨j + 1, q, _, by go_num, by omega, Lib.hid (by rw [HS.out]; exact hq.out), by omega, by rw [HS.out]; exact H⟩
              case measure => simp [intOf]; omega
          · obtain rfl : j = n := by omega
            have hjI : ¬ (j : Int) < (j : Int) := by omega
            have HS : Hid (partT F k j = tsymsN F (k + 1)) := Lib.hid (by unfold partT; rw [tsymsN]; unfold symsL; rw [hl.out])
            rw [HS.out] at H
            have hle := tsyms_len_le (fun x hx => (HF.out x hx).1) (k + 1)
            rw [hl.out] at hle
            have hq2 : Hid (q = lenT (tsymsN F (k + 1))) := Lib.hid (by rw [← HS.out]; exact hq.out)
            have hqj : q ≤ j := by rw [hq2.out]; exact hle
            clear hle hq hqn
            go_wp2_with fail
            go_roundw
            case rel => exact ⟨k + 1, q, _, by go_num, by omega, hq2, hqj, H⟩
            case measure => simp [intOf]; omega
      · have hkI : ¬ (k : Int) + 1 ≤ 15 := by omega
        obtain ⟨a7, c7, rfl, hv1, hv2⟩ := (H.front 1 rfl).rd.shape
        have hts : tsymsN F k = tsymsF F := by rw [show k = 15 by omega]; rfl
        rw [hts] at H
        have hqu : q = (usedF F).length := by rw [hq.out, hts]; unfold lenT; exact tsyms_used HF.out
        have hfw := few_weight F HF.out
        have hcnt : (F.countP fun x => decide (0 < x)) = q := by
          rw [hqu]; unfold usedF; rw [used_count F _ (Nat.le_refl _), List.take_length]
        rw [hcnt] at hfw
        have her2 : er = if sumF wtF F = 32768 ∨ q = 0 ∨ q = 1 ∧ sumF wtF F = 16384 then 0 else 2 := by rw [← her.out]; unfold terrF; rw [hZ.out, if_pos rfl, hqu]
        have hlf := left_law HF.out
        have hc1 : (countsF F).getD 1 0 = (cntL F 1 : Nat) := by rw [counts_get HF.out 1 (by omega)]; unfold cntC; rw [if_neg (by omega)]
        have hcb : ∀ k, 0 ≤ (countsF F).getD k 0 ∧ (countsF F).getD k 0 ≤ 1000000 := by
          intro k
          rcases Nat.lt_or_ge k 16 with h | h
          · rw [counts_get HF.out k h]
            unfold cntC
            split
            · omega
            · have := cntL_le F k; have := hl.out; omega
          · rw [List.getD_eq_getElem?_getD, List.getElem?_eq_none (by rw [counts_length]; exact h)]; simp
        have HL := Lib.hid (fun w => left_any (w := w) hcs hcb)
        have c0 := H.cells 16
        have c1 := (H.front 2 rfl).cells 1
        unfold tcells at c0
        rw [cell16 _ _ hcs] at c0
        rw [arr_get (by omega), hc1] at c1
        obtain ⟨lf, hlfE⟩ : ∃ lf, Hid (leftF (countsF F) = lf) := ⟨_, rfl⟩
        rw [hlfE.out] at HL hlf
        have hlf2 : lf = if sumF wtF F ≤ 32768 then 32768 - sumF wtF F else -1 := hlf
        clear hcnt hlf hcb hts
        have hql : q = (tsymsF F).length := by rw [hqu]; exact (tsyms_used HF.out).symm
        have fin : ∀ (wz : World), Own w wz (blk g (.cells (tcells F (.slice a7 q c7)) 127) :: slc 3 1 (.slice a7 q c7) q (nums (natI (tsymsF F))) :: blk cb (.cells (nums (countsF F)).toArray 77) :: []) → Own w wz [Tbl g F] := fun wz h => by
          have h2 : Own w wz [blk g (.cells (tcells F (.slice a7 q c7)) 127), slc 3 1 (.slice a7 q c7) q (nums (natI (tsymsF F)))] := (((h.front 2 rfl).drop))
          refine Own.unex (f := fun v => Go.Proofs.Ytnebacnmbigaaaa.star (blk g (.cells ((nums (countsF F)).toArray.push v) 127)) (slc 3 1 v (tsymsF F).length (nums (natI (tsymsF F))))) (.slice a7 q c7) (Own.unstar ?_)
          rw [← hql]
          exact h2
        have FIN := Lib.hid fin
        clear fin hql hqu
        obtain ⟨cn, hcn⟩ : ∃ cn, cntL F 1 = cn := ⟨_, rfl⟩
        rw [hcn] at c1 hfw
        generalize sumF wtF F = wt at *
        clear hcn hc1
        have cases6 : (q = 0 ∧ ¬ lf < 0 ∧ 0 < lf ∧ er = 0) ∨ (q = 1 ∧ cn = 1 ∧ ¬ lf < 0 ∧ 0 < lf ∧ er = 0) ∨ (q = 1 ∧ cn ≠ 1 ∧ ¬ lf < 0 ∧ 0 < lf ∧ er = 2) ∨ (2 ≤ q ∧ lf < 0 ∧ er = 2) ∨ (2 ≤ q ∧ lf = 0 ∧ er = 0) ∨ (2 ≤ q ∧ ¬ lf < 0 ∧ 0 < lf ∧ er = 2) := by
          rw [her2, hlf2]
          clear her2 hlf2
          rcases (by omega : q = 0 ∨ q = 1 ∨ 2 ≤ q) with h0 | h0 | h0
          · left
            have := hfw.1 h0
            rw [if_pos (by omega), if_pos (.inr (.inl h0))]
            omega
          · have h1 := hfw.2 h0
            rw [if_pos (by omega)]
            by_cases h2 : cn = 1
            · have := h1.2.2 h2
              right; left
              rw [if_pos (.inr (.inr ⟨h0, this⟩))]
              omega
            · right; right; left
              have h3 : wt ≠ 16384 := fun h => h2 (h1.2.1 h)
              rw [if_neg (by omega)]
              omega
          · right; right; right
            by_cases h2 : wt ≤ 32768
            · rw [if_pos h2]
              by_cases h3 : wt = 32768
              · right; left
                rw [if_pos (.inl h3)]
                omega
              · right; right
                rw [if_neg (by omega)]
                omega
            · left
              rw [if_neg h2, if_neg (by omega)]
              omega
        clear hfw her2 hlf2 hq hqn
        rcases cases6 with ⟨h1, h2, h3, h4⟩ | ⟨h1, h5, h2, h3, h4⟩ | ⟨h1, h5, h2, h3, h4⟩ | ⟨h1, h2, h4⟩ | ⟨h1, h2, h4⟩ | ⟨h1, h2, h3, h4⟩
        case' inl => subst h1
        case' inr.inl =>
          subst h1 h5
          have g1 : ((1 : Int) == 0) = false := rfl
        case' inr.inr.inl =>
          subst h1
          have g1 : ((1 : Int) == 0) = false := rfl
          have g2 : ((cn : Int) == 1) = false := by simp; omega
        case' inr.inr.inr.inl =>
          have g1 : ((q : Int) == 0) = false := by simp; omega
          have g2 : ((q : Int) == 1) = false := by simp; omega
        case' inr.inr.inr.inr.inl =>
          subst h2
          have g1 : ((q : Int) == 0) = false := by simp; omega
          have g2 : ((q : Int) == 1) = false := by simp; omega
        case' inr.inr.inr.inr.inr =>
          have g1 : ((q : Int) == 0) = false := by simp; omega
          have g2 : ((q : Int) == 1) = false := by simp; omega
        all_goals
          have e4 := Lib.hid h4
          clear h4
          go_wp2_with (refine wpList_load16 rfl _ rfl rfl hcs (H.front 2 rfl) ?_)
          refine (HL.out _).mono ?_
          rintro e w4 ⟨_, rfl, rfl, H1⟩
          have H := H.join H1
          clear H1 c0 c1
          go_wp2_with fail
          go_ret2
          first
            | exact ⟨_, rfl, _, by rw [e4.out]; rfl, fun h => absurd e4.out h, fun _ => ⟨g, rfl, FIN.out _ H⟩⟩
            | exact ⟨_, rfl, _, by rw [e4.out]; rfl, fun _ => ⟨rfl, H.bare⟩, fun h => by rw [e4.out] at h; cases h⟩
end Go.Proofs.Ytnebacnmbigaaaa
/- huff: laws for the walk of Decode. -/
namespace Go.Proofs.Ytnebacnmbigaaaa
open Go.RowKit


set_option maxRecDepth 100000 in
set_option maxHeartbeats 6400000 in
/-- A symbol is taken. -/
theorem decode_any {w0 w : World} {ps : List Piece} {g rg n : Nat} {l : List Int} {s : ByteArray} (hall : ∀ x ∈ l, 0 ≤ x ∧ x ≤ 15) (hw : sumF wtF l ≤ 2 ^ 15) (hlen : l.length ≤ 1000000) (hs : s.size ≤ 281474976710656) (hn : n ≤ 8 * s.size)
    (H : Own w0 w (Rdr rg s n :: Tbl g l :: ps)) :
    Calls Try.prog 76 #[.pointer (some ⟨g, 0, none⟩), .pointer (some ⟨rg, 0, none⟩)] w (Ret fun r w' => r = .tuple #[.int .i64 (decF l ((textBits s).drop n)).1, .int .i64 (decF l ((textBits s).drop n)).2.1] ∧ Own w0 w' (Rdr rg s (n + (decF l ((textBits s).drop n)).2.2) :: Tbl g l :: ps)) := by
  obtain ⟨v, H⟩ := H.swap.ex
  have H := H.star
  obtain ⟨ta, tc, rfl, ht1, ht2⟩ := H.swap.rd.shape
  obtain ⟨bs, hbs⟩ : ∃ bs, Hid ((textBits s).drop n = bs) := ⟨_, rfl⟩
  rw [hbs.out]
  have hbl : Hid (bs.length = 8 * s.size - n) := Lib.hid (by rw [← hbs.out, List.length_drop, textBits_length])
  obtain ⟨x1, x2, x3, hD⟩ : ∃ x1 x2 x3, Hid (decF l bs = (x1, x2, x3)) := ⟨_, _, _, rfl⟩
  rw [hD.out]
  obtain ⟨q, hq⟩ : ∃ q, Hid ((tsymsF l).length = q) := ⟨_, rfl⟩
  rw [hq.out] at H
  have hcl := counts_length l
  have HALL := Lib.hid hall
  have HW := Lib.hid hw
  clear hall hw
  have H : Own w0 w (Rdr rg s n :: blk g (.cells (tcells l (.slice ta q tc)) 127) :: slc 3 1 (.slice ta q tc) q (nums (natI (tsymsF l))) :: ps) := (H.front 2 rfl)
  have fin : ∀ (wz : World) (m : Nat), Own w0 wz (Rdr rg s m :: blk g (.cells (tcells l (.slice ta q tc)) 127) :: slc 3 1 (.slice ta q tc) q (nums (natI (tsymsF l))) :: ps) → Own w0 wz (Rdr rg s m :: Tbl g l :: ps) := fun wz m h => by
    have h2 := (h.front 2 rfl).front 2 rfl
    refine (Own.unex (f := fun v => Go.Proofs.Ytnebacnmbigaaaa.star (blk g (.cells ((nums (countsF l)).toArray.push v) 127)) (slc 3 1 v (tsymsF l).length (nums (natI (tsymsF l))))) (.slice ta q tc) (Own.unstar ?_)).swap
    rw [hq.out]
    exact h2
  have FIN := Lib.hid fin
  clear fin
  go_enter Try.func76, Try.ntmps76
  go_wp2_with fail
  go_loopw [6, 7, 8, 20] (fun s6 s7 s8 s20 wx => ∃ (i : Nat) (c : Int) (y : Int × Int × Nat), s20 = .int .i64 i ∧ s6 = .int .i64 (2 * c) ∧ s7 = .int .i64 (lowF l (i + 1)) ∧ s8 = .int .i64 (atF l (i + 1)) ∧ i ≤ 15 ∧ i ≤ bs.length ∧ 0 ≤ c ∧ Hid (c < 2 ^ i) ∧ Hid (lowF l i + cntC l i ≤ c) ∧ Hid (decN l (15 - i) i c (bs.drop i) = y) ∧ Hid (y.1 = x1 ∧ y.2.1 = x2 ∧ i + y.2.2 = x3) ∧ Own w0 wx (Rdr rg s (n + i) :: blk g (.cells (tcells l (.slice ta q tc)) 127) :: slc 3 1 (.slice ta q tc) q (nums (natI (tsymsF l))) :: ps)) (fun _ _ _ s20 _ => 15 - (intOf s20).toNat)
  case atStart =>
    exact ⟨0, 0, _, by go_num, by go_num, by rw [lowF_succ, lowF_zero]; rfl, rfl, by omega, by omega, by omega, Lib.hid (by decide), Lib.hid (by rw [lowF_zero]; simp [cntC]), Lib.hid rfl, Lib.hid (by have := hD.out; unfold decF at this; simp [this]), H⟩
  case round =>
    clear H
    obtain ⟨i, c, y, rfl, rfl, rfl, rfl, hi, hib, hc0, hc2, hcl2, hy, hyx, H⟩ := hrel
    have hlow := low_le HALL.out HW.out (i + 1) (by omega)
    have hat := atF_le HALL.out (i + 1)
    by_cases hlt : i < 15
    · have hiI : (i : Int) < 15 := by omega
      have hci : c ≤ 32768 := by
        obtain ⟨p, hp, h2, h3⟩ := pow_pos_nat i (by omega)
        have := hc2.out
        rw [hp] at this
        omega
      have c0 := (H.front 1 rfl).cells (1 + i)
      unfold tcells at c0
      rw [cells17 _ _ hcl _ (by omega), counts_get HALL.out _ (by omega), show cntC l (1 + i) = cntC l (i + 1) by rw [Nat.add_comm]] at c0
      have hlow2 := low_le HALL.out HW.out (i + 1 + 1) (by omega)
      have hls := lowF_succ l (i + 1)
      have hats : atF l (i + 1 + 1) = atF l (i + 1) + cntC l (i + 1) := rfl
      have hat2 := atF_le HALL.out (i + 1 + 1)
      have hcn0 := cntC_nonneg l (i + 1)
      have hlow1 : lowF l (i + 1) ≤ 2 * c := by have := hcl2.out; rw [lowF_succ]; omega
      by_cases hbit : i < bs.length
      · obtain ⟨b, hb⟩ : ∃ b, bs[i]? = some b := ⟨bs[i], List.getElem?_eq_getElem hbit⟩
        have ht := take_yes (m := 1) H hs (by omega) (by have := hbl.out; omega)
        rw [show ((1 : Nat) : Int) = 1 from rfl] at ht
        have hval : ((textBits s).drop (n + i)).take 1 = [b] := by
          rw [← List.drop_drop, hbs.out]
          have : bs.drop i = b :: bs.drop (i + 1) := by
            obtain ⟨h1, h2⟩ := List.getElem?_eq_some_iff.1 hb
            rw [List.drop_eq_getElem_cons h1, h2]
          rw [this]; rfl
        rw [hval] at ht
        have hvb : valOf [b] = bi b := by simp [valOf]
        rw [hvb] at ht
        have hy2 := hy.out
        have hdrop : bs.drop i = b :: bs.drop (i + 1) := by
          obtain ⟨h1, h2⟩ := List.getElem?_eq_some_iff.1 hb
          rw [List.drop_eq_getElem_cons h1, h2]
        rw [hdrop, show 15 - i = (15 - (i + 1)) + 1 by omega, decN] at hy2
        have hbd := bi_bd b
        have hor := or_low hc0 (by omega) hbd.1 hbd.2
        have hc2' : Hid (2 * c + bi b < 2 ^ (i + 1)) := Lib.hid (by have := hc2.out; rw [Int.pow_succ]; omega)
        have hsl := symsL_length (l := l) (i + 1)
        have hcnt : cntC l (i + 1) = cntL l (i + 1) := by unfold cntC; rw [if_neg (by omega)]
        have hget := fun j h => tsymsN_get (l := l) (n := i) (m := 15) (i := j) hlt h
        have htl := tsymsN_length (l := l) i
        have HT := Lib.hid ht
        have HGET := Lib.hid hget
        obtain ⟨d, hd⟩ : ∃ d, bi b = d := ⟨_, rfl⟩
        rw [hd] at hy2 hor hc2' hbd HT
        clear ht hget hdrop hvb hval hb hd hy
        by_cases hh : 2 * c + d - lowF l (i + 1) < cntC l (i + 1)
        · obtain ⟨j, hj⟩ : ∃ j : Nat, 2 * c + d - lowF l (i + 1) = j := ⟨(2 * c + d - lowF l (i + 1)).toNat, by omega⟩
          have hjl : j < (symsL l (i + 1)).length := by omega
          rw [hj, Int.toNat_natCast, List.getElem?_eq_getElem hjl] at hy2
          simp only at hy2
          obtain ⟨sy, hsy⟩ : ∃ sy, (symsL l (i + 1))[j] = sy := ⟨_, rfl⟩
          rw [hsy] at hy2
          subst hy2
          obtain ⟨hx1, hx2, hx3⟩ := hyx.out
          simp only at hx1 hx2 hx3
          subst hx1 hx2 hx3
          have htq : (nums (natI (tsymsF l)))[(tsymsN l i).length + j]? = some (.int .i64 (sy : Int)) := by
            have h1 := HGET.out j (by omega)
            rw [List.getElem?_eq_getElem hjl, hsy] at h1
            refine nums_get ?_
            unfold natI
            rw [List.getElem?_map]
            show Option.map _ ((tsymsN l 15)[_]?) = _
            rw [h1]
            rfl
          have hidx : (tsymsN l i).length + j < q := by
            have h1 := HGET.out j (by omega)
            rw [List.getElem?_eq_getElem hjl] at h1
            have := (List.getElem?_eq_some_iff.1 h1).1
            rw [← hq.out]; exact this
          obtain ⟨ix, hix⟩ : ∃ ix, (tsymsN l i).length + j = ix := ⟨_, rfl⟩
          rw [hix] at htq hidx
          have hixI : atF l (i + 1) + (2 * c + d) - lowF l (i + 1) = (ix : Int) := by omega
          have hw1 : IntKind.i64.wrap (2 * c + d - lowF l (i + 1)) = 2 * c + d - lowF l (i + 1) := IntWalk.i64_in _ ⟨by omega, by omega⟩
          have hw2 : IntKind.i64.wrap (atF l (i + 1) + (2 * c + d)) = atF l (i + 1) + (2 * c + d) := IntWalk.i64_in _ ⟨by omega, by omega⟩
          have hw3 : IntKind.i64.wrap (atF l (i + 1) + (2 * c + d) - lowF l (i + 1)) = (ix : Int) := by rw [hixI]; exact IntWalk.i64_in _ ⟨by omega, by omega⟩
          have HTQ := Lib.hid htq
          clear htq hixI hix htl hjl hsy hj hcnt hsl hls hats hat2 hlow2 hcl2 hyx HGET
          generalize lowF l (i + 1) = lo at *
          generalize atF l (i + 1) = at_ at *
          generalize cntC l (i + 1) = k at *
          have hixI2 : (ix : Int) < (q : Int) := by omega
          go_wp2_with fail
          refine HT.out.mono ?_
          rintro e w2 ⟨_, rfl, rfl, H2⟩
          clear H c0
          have c1 := (H2.front 1 rfl).cells 16
          unfold tcells at c1
          rw [cell16 _ _ hcl] at c1
          obtain ⟨gb, go, _, he, -⟩ := (H2.front 2 rfl).rd.some (by rw [nums_length]; unfold natI; rw [List.length_map, hq.out]; omega)
          cases he
          have c2 := (H2.front 2 rfl).rd.cell HTQ.out
          go_wp2_with fail
          go_ret2
          exact ⟨_, rfl, rfl, FIN.out _ _ (by rw [← Nat.add_assoc]; exact H2)⟩
        · have hnone : (symsL l (i + 1))[(2 * c + d - lowF l (i + 1)).toNat]? = none := List.getElem?_eq_none (by omega)
          rw [hnone] at hy2
          simp only at hy2
          subst hy2
          have hyx2 : Hid ((decN l (15 - (i + 1)) (i + 1) (2 * c + d) (bs.drop (i + 1))).1 = x1 ∧ (decN l (15 - (i + 1)) (i + 1) (2 * c + d) (bs.drop (i + 1))).2.1 = x2 ∧ i + 1 + (decN l (15 - (i + 1)) (i + 1) (2 * c + d) (bs.drop (i + 1))).2.2 = x3) := Lib.hid (by
            obtain ⟨h1, h2, h3⟩ := hyx.out
            exact ⟨h1, h2, by rw [← h3]; simp only; omega⟩)
          have hcl3 : Hid (lowF l (i + 1) + cntC l (i + 1) ≤ 2 * c + d) := Lib.hid (by omega)
          have hcd : 0 ≤ 2 * c + d ∧ 2 * c + d ≤ 65537 := ⟨by omega, by omega⟩
          clear hnone hyx HGET htl hsl hcnt hcl2
          generalize hlo2 : lowF l (i + 1 + 1) = lo2 at *
          generalize hat2' : atF l (i + 1 + 1) = at2 at *
          generalize hlo : lowF l (i + 1) = lo at *
          generalize atF l (i + 1) = at_ at *
          generalize hkk : cntC l (i + 1) = k at *
          have HLO2 := Lib.hid hlo2
          have HAT2 := Lib.hid hat2'
          have HLO := Lib.hid hlo
          have HKK := Lib.hid hkk
          clear hlo2 hat2' hlo hkk
          have hw1 : IntKind.i64.wrap (2 * c + d - lo) = 2 * c + d - lo := IntWalk.i64_in _ ⟨by omega, by omega⟩
          have hw2 : IntKind.i64.wrap (at_ + k) = at2 := by rw [hats]; exact IntWalk.i64_in _ ⟨by omega, by omega⟩
          have hw3 : IntKind.i64.wrap (lo + k) = lo + k := IntWalk.i64_in _ ⟨by omega, by omega⟩
          have hw4 : IntKind.i64.wrap ((lo + k) * 2) = lo2 := by rw [hls, Int.mul_comm]; exact IntWalk.i64_in _ ⟨by omega, by omega⟩
          have hw5 : IntKind.i64.wrap ((2 * c + d) * 2) = 2 * (2 * c + d) := by rw [Int.mul_comm]; exact IntWalk.i64_in _ ⟨by omega, by omega⟩
          have hii : i + 1 ≤ bs.length := hbit
          obtain ⟨hcd0, hcd1⟩ := hcd
          clear hls hats hat hat2 hlow hlow2 hcd1 hbit
          go_wp2_with fail
          refine HT.out.mono ?_
          rintro e w2 ⟨_, rfl, rfl, H2⟩
          clear H c0
          go_wp2_with fail
          go_roundw
          case rel => exact ⟨i + 1, 2 * c + d, _, by go_num, by go_num, by rw [HLO2.out], by rw [HAT2.out], by omega, hii, hcd0, hc2', Lib.hid (by rw [HLO.out, HKK.out]; exact hcl3.out), Lib.hid rfl, hyx2, by rw [← Nat.add_assoc]; exact H2⟩
          case measure => simp [intOf]; omega
      · have hib2 : i = bs.length := by omega
        have hy2 := hy.out
        rw [List.drop_eq_nil_of_le (by omega), show 15 - i = (15 - (i + 1)) + 1 by omega, decN] at hy2
        subst hy2
        obtain ⟨hx1, hx2, hx3⟩ := hyx.out
        simp only at hx1 hx2 hx3
        rw [Nat.add_zero] at hx3
        subst hx1 hx2 hx3
        have ht := take_no 1 (by omega) (by omega) H hs (by have := hbl.out; omega) (.inr (.inr (by have := hbl.out; omega)))
        have HT := Lib.hid ht
        clear ht hls hats hat hat2 hlow hlow2 hib2
        go_wp2_with fail
        refine HT.out.mono ?_
        rintro e w2 ⟨_, rfl, rfl, H2⟩
        clear H c0
        go_wp2_with fail
        go_ret2
        exact ⟨_, rfl, rfl, FIN.out _ _ H2⟩
    · have hi15 : i = 15 := by omega
      have hiI : ¬ (i : Int) < 15 := by omega
      have hy2 := hy.out
      rw [show 15 - i = 0 by omega, decN] at hy2
      subst hy2
      obtain ⟨hx1, hx2, hx3⟩ := hyx.out
      simp only at hx1 hx2 hx3
      rw [Nat.add_zero] at hx3
      subst hx1 hx2 hx3
      clear hat hlow hi15
      go_wp2_with fail
      go_ret2
      exact ⟨_, rfl, rfl, FIN.out _ _ H⟩
end Go.Proofs.Ytnebacnmbigaaaa
/- inflate: the walks of sym, table. -/
namespace Go.Proofs.Ytnebacnmbigaaaa
open Go.RowKit

/-- Lengths that are a code's. -/
structure TabOk (l : List Int) : Prop where
  all : ∀ x ∈ l, 0 ≤ x ∧ x ≤ 15
  wt : sumF wtF l ≤ 2 ^ 15
  len : l.length ≤ 1000000
theorem dec_bd (l : List Int) : ∀ f n c bs, 0 ≤ (decN l f n c bs).1 ∧ ((decN l f n c bs).1 = 0 ∨ (decN l f n c bs).1 < l.length) := by
  intro f
  induction f with
  | zero => intro n c bs; simp [decN]
  | succ f ih =>
    intro n c bs
    cases bs with
    | nil => simp [decN]
    | cons b t =>
      rw [decN]
      split
      · next s h =>
        have := (symsL_at h).1
        simp only
        omega
      · exact ih _ _ _
theorem sym_got {l : List Int} {bs : List Bool} {n : Nat} : GotR (symG bs l n) (decF l (bs.drop n)).1 (n + (decF l (bs.drop n)).2.2) (decF l (bs.drop n)).2.1 := by
  have h : ∀ f m c b, (decN l f m c b).2.1 = 0 ∨ (decN l f m c b).2.1 = 2 := by
    intro f
    induction f with
    | zero => intro m c b; right; rfl
    | succ f ih =>
      intro m c b
      cases b with
      | nil => right; rfl
      | cons x t =>
        rw [decN]
        split
        · left; rfl
        · exact ih _ _ _
  unfold symG
  rcases h 15 0 0 (bs.drop n) with h | h
  · rw [if_pos (show (decF l (bs.drop n)).2.1 = 0 from h)]
    exact ⟨rfl, rfl, h⟩
  · rw [if_neg (show ¬ (decF l (bs.drop n)).2.1 = 0 from by unfold decF; omega)]
    split
    · exact h
    · exact h

set_option maxRecDepth 100000 in
set_option maxHeartbeats 1600000 in
theorem insym_any {w0 w : World} {ps : List Piece} {g rg t n : Nat} {l : List Int} {s : ByteArray} {out : List Int} {most e : Int} (hT : TabOk l) (hs : s.size ≤ 1000000) (hn : n ≤ 8 * s.size) (H : Own w0 w (Inr g rg s n out most e :: Tbl t l :: ps)) :
    Calls Try.prog 53 #[.pointer (some ⟨g, 0, none⟩), .pointer (some ⟨t, 0, none⟩)] w (Ret fun r w' => ∃ v n' e', r = .int .i64 v ∧ 0 ≤ v ∧ v ≤ 1000000 ∧ n' ≤ 8 * s.size ∧ (e ≠ 0 → e' = e ∧ v = 0) ∧ (e = 0 → GotR (symG (textBits s) l n) v n' e') ∧ Own w0 w' (Inr g rg s n' out most e' :: Tbl t l :: ps)) := by
  obtain ⟨a, c, h1, h2, H⟩ := H.inr
  have c0 := H.cells
  go_enter Try.func53, Try.ntmps53
  by_cases he : e = 0
  case neg =>
    have hb : (e == 0) = false := by simp [he]
    go_wp2
    go_ret
    exact ⟨_, rfl, 0, n, e, rfl, by omega, by omega, hn, fun _ => ⟨rfl, rfl⟩, fun h => absurd h he, H.uninr rfl⟩
  subst he
  have H3 : Own w0 w (Rdr rg s n :: Tbl t l :: blk g (.cells #[.pointer (some ⟨rg, 0, none⟩), .slice a out.length c, .int .i64 most, .int .i64 0] 59) :: slc 5 1 (.slice a out.length c) out.length (bcells out) :: ps) := (H.front 3 rfl).front 3 rfl
  have HD := Lib.hid (decode_any (g := t) (rg := rg) hT.all hT.wt hT.len (by omega) hn H3)
  have hg := Lib.hid (sym_got (l := l) (bs := textBits s) (n := n))
  have hu := decN_used (l := l) 15 0 0 ((textBits s).drop n)
  have hxb : 0 ≤ (decF l ((textBits s).drop n)).1 ∧ (decF l ((textBits s).drop n)).1 ≤ 1000000 := by
    have h1 := dec_bd l 15 0 0 ((textBits s).drop n)
    have h2 := hT.len
    unfold decF
    omega
  have hN : n + (decF l ((textBits s).drop n)).2.2 ≤ 8 * s.size := by
    rw [List.length_drop, textBits_length] at hu
    unfold decF
    omega
  clear hu H3
  obtain ⟨x1, x2, x3, hD⟩ : ∃ x1 x2 x3, Hid (decF l ((textBits s).drop n) = (x1, x2, x3)) := ⟨_, _, _, rfl⟩
  rw [hD.out] at HD hg hN hxb
  simp only at hN hxb
  go_wp2_with fail
  refine HD.out.mono ?_
  rintro e w1 ⟨_, rfl, rfl, H1⟩
  clear H c0 HD
  have H : Own w0 w1 (blk g (.cells #[.pointer (some ⟨rg, 0, none⟩), .slice a out.length c, .int .i64 most, .int .i64 0] 59) :: Rdr rg s (n + x3) :: Tbl t l :: slc 5 1 (.slice a out.length c) out.length (bcells out) :: ps) := H1.front 2 rfl
  clear H1
  have c0 := H.cells
  go_wp2_with (refine wpList_store_int rfl _ _ rfl rfl H rfl (by kernel_rfl) (by simp) ?_; clear H c0; intro w3 H)
  go_ret
  have H4 : Own w0 w3 (blk g (.cells #[.pointer (some ⟨rg, 0, none⟩), .slice a out.length c, .int .i64 most, .int .i64 x2] 59) :: slc 5 1 (.slice a out.length c) out.length (bcells out) :: Rdr rg s (n + x3) :: Tbl t l :: ps) := (H.front 3 rfl).front 1 rfl
  exact ⟨_, rfl, x1, rfl, hxb.1, hxb.2, n + x3, hN, x2, hg.out, H4.uninr rfl⟩
set_option maxRecDepth 100000 in
set_option maxHeartbeats 1600000 in
theorem intable_any {w0 w : World} {ps : List Piece} {g rg n m : Nat} {l : List Int} {v : Value} {s : ByteArray} {out : List Int} {most : Int} (hr : Rd w 1 v m (nums l)) (hm : m ≤ 1000000) (H : Own w0 w (Inr g rg s n out most 0 :: ps)) :
    Calls Try.prog 57 #[.pointer (some ⟨g, 0, none⟩), v] w (Ret fun r w' => (terrF l = 0 → ∃ t, r = .pointer (some ⟨t, 0, none⟩) ∧ Own w0 w' (Tbl t l :: Inr g rg s n out most 0 :: ps)) ∧ (terrF l ≠ 0 → r = .pointer none ∧ Own w0 w' (Inr g rg s n out most 2 :: ps))) := by
  have HN := Lib.hid (hnew_any hr hm)
  obtain ⟨x, hx⟩ : ∃ x, Hid (terrF l = x) := ⟨_, rfl⟩
  rw [hx.out] at HN ⊢
  obtain ⟨a, c, rfl, _, _⟩ := hr.shape
  clear hr
  go_enter Try.func57, Try.ntmps57
  go_wp2_with fail
  refine HN.out.mono ?_
  rintro e w1 ⟨_, rfl, pv, rfl, hn1, hn2⟩
  replace hn1 := Lib.hid hn1
  replace hn2 := Lib.hid hn2
  by_cases h0 : x = 0
  · subst h0
    obtain ⟨t, rfl, H1⟩ := hn2.out rfl
    have H2 := H.join H1
    clear H1 H HN
    go_wp2
    go_ret
    exact ⟨_, rfl, ⟨t, rfl, H2⟩⟩
  · obtain ⟨rfl, H1⟩ := hn1.out h0
    have H2 := H.join H1
    have HH := Lib.hid (infail_any (g := g) (rg := rg) 2 (by decide) H2)
    have hb : (x == 0) = false := by simp [h0]
    clear H1 H HN hn1 hn2
    go_wp2_with fail
    refine HH.out.mono ?_
    rintro e w2 ⟨_, rfl, H3⟩
    go_wp2
    go_ret
    exact ⟨_, rfl, fun h => absurd h h0, fun _ => ⟨rfl, H3⟩⟩
end Go.Proofs.Ytnebacnmbigaaaa
