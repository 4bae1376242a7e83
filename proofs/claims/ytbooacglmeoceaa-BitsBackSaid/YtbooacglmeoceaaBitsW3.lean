/-
  Bits: the walks of the writer: Align, Text, Len, Bytes.
-/
import Derived.Test.YtbooacglmeoceaaBitsW2
namespace Go.Proofs.Ytbooacglmeoceaa
open Go.RowKit

def byteNums (s : ByteArray) : List Int := s.data.toList.map fun b => (b.toNat : Int)
theorem byteCells_nums (s : ByteArray) : byteCells s = u8s (byteNums s) := by simp [byteCells, u8s, byteNums]
theorem byteNums_length (s : ByteArray) : (byteNums s).length = s.size := by simp [byteNums]
theorem byteNums_bd (s : ByteArray) : ∀ x ∈ byteNums s, 0 ≤ x ∧ x < 256 := by
  intro x hx
  obtain ⟨b, _, rfl⟩ := List.mem_map.1 hx
  have := b.toNat_lt
  omega

/-- Bits of bytes. -/
def bitsOfNums (ns : List Int) : List Bool := ns.flatMap (bitsOf · 8)
theorem bitsOfNums_length (ns : List Int) : (bitsOfNums ns).length = 8 * ns.length := by
  induction ns with
  | nil => rfl
  | cons n ns ih =>
    simp only [bitsOfNums, List.flatMap_cons, List.length_append, bitsOf_length, List.length_cons] at ih ⊢
    omega
theorem byteAt_append (bs cs : List Bool) (h : bs.length % 8 = 0) (k : Nat) (hk : k < bs.length / 8) : byteAt (bs ++ cs) k = byteAt bs k := by
  unfold byteAt
  rw [List.drop_append_of_le_length (by omega), List.take_append_of_le_length (by simp; omega)]
theorem byteAt_append' (bs cs : List Bool) (h : bs.length % 8 = 0) (k : Nat) : byteAt (bs ++ cs) (bs.length / 8 + k) = byteAt cs k := by
  unfold byteAt
  rw [List.drop_append, List.drop_eq_nil_of_le (by omega), List.nil_append]
  congr 3
  omega
/-- A whole byte in front. -/
theorem bytesOf_byte (b8 cs : List Bool) (h : b8.length = 8) : bytesOf (b8 ++ cs) = valOf b8 :: bytesOf cs := by
  unfold bytesOf
  rw [show nbytes (b8 ++ cs).length = nbytes cs.length + 1 by simp [nbytes]; omega, List.range_succ_eq_map, List.map_cons, List.map_map]
  congr 1
  · unfold byteAt
    simp [List.take_append_of_le_length (show 8 ≤ b8.length by omega), List.take_of_length_le (show b8.length ≤ 8 by omega)]
  · refine List.map_congr_left fun k _ => ?_
    have := byteAt_append' b8 cs (by omega) k
    rw [show b8.length / 8 = 1 by omega] at this
    show byteAt _ (k + 1) = _
    rw [Nat.add_comm]
    exact this
theorem bytesOf_nums (ns : List Int) (hb : ∀ x ∈ ns, 0 ≤ x ∧ x < 256) : bytesOf (bitsOfNums ns) = ns := by
  induction ns with
  | nil => rfl
  | cons n ns ih =>
    show bytesOf (bitsOf n 8 ++ bitsOfNums ns) = _
    rw [bytesOf_byte _ _ (bitsOf_length n 8), ih fun x hx => hb x (List.mem_cons_of_mem _ hx), valOf_bitsOf]
    have := hb n List.mem_cons_self
    congr 1
    omega
theorem bytesOf_append (bs cs : List Bool) (h : bs.length % 8 = 0) : bytesOf (bs ++ cs) = bytesOf bs ++ bytesOf cs := by
  unfold bytesOf
  rw [show nbytes (bs ++ cs).length = bs.length / 8 + nbytes cs.length by simp [nbytes]; omega, show nbytes bs.length = bs.length / 8 by unfold nbytes; omega, List.range_add, List.map_append, List.map_map]
  congr 1
  · exact List.map_congr_left fun k hk => byteAt_append bs cs h k (List.mem_range.1 hk)
  · exact List.map_congr_left fun k _ => byteAt_append' bs cs h k

/-- What Text puts. -/
def textBits (s : ByteArray) : List Bool := bitsOfNums (byteNums s)
theorem textBits_length (s : ByteArray) : (textBits s).length = 8 * s.size := by rw [textBits, bitsOfNums_length, byteNums_length]

set_option maxHeartbeats 400000 in
theorem align_gen {w0 w : World} {ps : List Piece} {g : Nat} {a : Option Addr} {N cp m : Nat} {xs : List Value} (H : Own w0 w (blk g (.cells #[.slice a N cp, .int .i64 m] 25) :: ps)) (hN1 : N ≤ 35184372088832) (hc1 : N ≤ cp) (hc2 : cp ≤ 9223372036854775807) :
    Calls Try.prog 26 #[.pointer (some ⟨g, 0, none⟩)] w (Ret fun _ w' => Own w0 w' (blk g (.cells #[.slice a N cp, .int .i64 (8 * N : Nat)] 25) :: ps)) := by
  have c0 := H.cells
  go_enter Try.func26, Try.ntmps26
  go_wp2_with (refine wpList_store_int rfl _ _ rfl rfl H rfl (by kernel_rfl) (by simp) ?_; clear H c0; intro w3 H)
  go_end0
  refine ⟨_, rfl, ?_⟩
  simpa using H
theorem align_any {w0 w : World} {ps : List Piece} {g : Nat} {bs : List Bool} (H : Own w0 w (Wtr g bs :: ps)) (hl : bs.length ≤ 35184372088832) :
    Calls Try.prog 26 #[.pointer (some ⟨g, 0, none⟩)] w (Ret fun _ w' => Own w0 w' (Wtr g (aligned bs) :: ps)) := by
  obtain ⟨a, cp, hc1, hc2, H⟩ := H.wtr
  refine (align_gen (xs := []) H (by unfold nbytes; omega) hc1 hc2).mono ?_
  rintro e w3 ⟨v, rfl, H⟩
  refine ⟨_, rfl, H.unwtr ?_ ?_ ?_⟩
  · rw [aligned_length]
  · rw [aligned_length]; unfold nbytes; omega
  · rw [bytesOf_aligned]

set_option maxHeartbeats 400000 in
theorem text_any {w0 w : World} {ps : List Piece} {g : Nat} {bs : List Bool} (s : ByteArray) (H : Own w0 w (Wtr g bs :: ps)) (hl : bs.length + s.size ≤ 35184372088000) :
    Calls Try.prog 27 #[.pointer (some ⟨g, 0, none⟩), .string s] w (Ret fun _ w' => Own w0 w' (Wtr g (aligned bs ++ textBits s) :: ps)) := by
  go_enter Try.func27, Try.ntmps27
  go_wp2_with fail
  refine (align_any H (by omega)).mono ?_
  rintro e w1 ⟨_, rfl, H1⟩
  clear H
  obtain ⟨m, hm⟩ : ∃ m, Hid ((aligned bs).length = m) := ⟨_, rfl⟩
  obtain ⟨N, hN⟩ : ∃ N, Hid (nbytes m = N) := ⟨_, rfl⟩
  have hmN : m = 8 * N ∧ N ≤ nbytes bs.length := by have h1 := hm.out; have h2 := hN.out; rw [aligned_length] at h1; unfold nbytes at *; omega
  obtain ⟨hmN, hN2⟩ := hmN
  have hN3 : N + s.size ≤ 35184372088800 := by unfold nbytes at hN2; omega
  obtain ⟨a, cp, hc1, hc2, H⟩ := H1.wtr
  clear H1
  rw [hm.out] at H hc1
  rw [hN.out] at H hc1
  have c0 := H.cells
  go_wp2_with (first
    | (at_builtin; refine wpList_append_str rfl _ _ rfl Try.underlying23 Try.underlying9 u8Info rfl rfl H.swap rfl (by omega) ?_; clear H c0; intro v' w' H; replace H := H.swap; obtain ⟨a', c', rfl, h1', h2'⟩ := (H.front 1 rfl).rd.shape)
    | (refine wpList_store_slice rfl _ _ rfl rfl H rfl (by kernel_rfl) (by simp) ?_; clear H; intro w2 H))
  refine (align_gen (xs := []) (m := m) (by simpa using H) (by omega) h1' h2').mono ?_
  rintro e w3 ⟨_, rfl, H3⟩
  go_wp2
  go_end0
  have hlen : (aligned bs ++ textBits s).length = 8 * (N + s.size) := by rw [List.length_append, hm.out, textBits_length]; omega
  refine ⟨_, rfl, H3.unwtr ?_ ?_ ?_⟩
  · rw [hlen]
  · rw [hlen]; unfold nbytes; omega
  · rw [bytesOf_append _ _ (by rw [hm.out]; omega), textBits, bytesOf_nums _ (byteNums_bd s), byteCells_nums]
    simp [u8s]
theorem text_none (s : ByteArray) (w : World) : Calls Try.prog 27 #[.pointer none, .string s] w (Ret fun _ w' => w' = w) := by
  go_enter Try.func27, Try.ntmps27
  go_wp2
  go_end0
  exact ⟨_, rfl, rfl⟩

theorem align_none (w : World) : Calls Try.prog 26 #[.pointer none] w (Ret fun _ w' => w' = w) := by
  go_enter Try.func26, Try.ntmps26
  go_wp2
  go_end0
  exact ⟨_, rfl, rfl⟩

theorem len_any {w0 w : World} {ps : List Piece} {g : Nat} {bs : List Bool} (H : Own w0 w (Wtr g bs :: ps)) :
    Calls Try.prog 10 #[.pointer (some ⟨g, 0, none⟩)] w fun e w' => e = .returned (.int .i64 bs.length) ∧ w' = w := by
  obtain ⟨m, hm⟩ : ∃ m, Hid (bs.length = m) := ⟨_, rfl⟩
  obtain ⟨a, cp, hc1, hc2, H⟩ := H.wtr
  rw [hm.out] at H ⊢
  have c0 := H.cells
  go_enter Try.func10, Try.ntmps10
  go_wp2
  go_ret
  exact ⟨rfl, rfl⟩
theorem len_none (w : World) : Calls Try.prog 10 #[.pointer none] w fun e w' => e = .returned (.int .i64 0) ∧ w' = w := by
  go_enter Try.func10, Try.ntmps10
  go_wp2
  go_ret
  exact ⟨rfl, rfl⟩

/-- The text that bits are. -/
def textOf (bs : List Bool) : ByteArray := strOfNums (bytesOf bs)
theorem bytes_any {w0 w : World} {ps : List Piece} {g : Nat} {bs : List Bool} (H : Own w0 w (Wtr g bs :: ps)) :
    Calls Try.prog 11 #[.pointer (some ⟨g, 0, none⟩)] w fun e w' => e = .returned (.string (textOf bs)) ∧ w' = w := by
  obtain ⟨a, cp, hc1, hc2, H⟩ := H.wtr
  have c0 := H.cells
  have hs := run_string_sep (P := Try.prog) 23 9 Try.underlying23 Try.underlying5 Try.underlying9 (H.front 1 rfl).rd
  rw [show strOfNums (bytesOf bs) = textOf bs from rfl] at hs
  obtain ⟨n, hn⟩ : ∃ n, n = nbytes bs.length := ⟨_, rfl⟩
  simp only [← hn] at hs c0
  clear hn
  go_enter Try.func11, Try.ntmps11
  go_wp2
  go_ret
  exact ⟨rfl, rfl⟩
theorem bytes_none (w : World) : Calls Try.prog 11 #[.pointer none] w fun e w' => e = .returned (.string ByteArray.empty) ∧ w' = w := by
  go_enter Try.func11, Try.ntmps11
  go_wp2
  go_ret
  exact ⟨rfl, rfl⟩
end Go.Proofs.Ytbooacglmeoceaa
