/-
  Texts of this claim, one behind the other: lz; Bits; Bits; flate; flate; Bits; Bits; flate; flate; inflate; inflate; stream; stream; stream; stream; stream; stream; stream.
-/
import Derived.Test.YtljejkdkjnbmhaaUc6
import Derived.Carry
set_option linter.unusedVariables false
/- lz: the walk of Parse. -/
namespace Go.Proofs.Ytljejkdkjnbmhaa
open Go.RowKit Go.Maps

set_option maxRecDepth 100000 in
theorem tokInfo : (Try.prog.info? 79).map (fun i => (i.zero, i.size, i.bytes)) = some (some (tval ⟨0, 0, 0⟩), 3, 24) := by kernel_rfl

set_option maxRecDepth 100000 in
set_option maxHeartbeats 3200000 in
theorem lzparse_any {w0 w : World} {ps : List Piece} {s : ByteArray} (H : Own w0 w ps) (hs : s.size ≤ 1000000) :
    Calls Try.prog 21 #[.string s] w (Ret fun v w' => Own w0 w' (slc 79 3 v (parse s).length (rows tcell (parse s)) :: ps)) := by
  have hmk : ∀ w : World, (Instr.makeSlice 30 (.int .i64 s.size) (.int .i64 s.size)).run Try.prog w = .ok (.slice (some ⟨w.heap.size, 0, none⟩) s.size s.size) (w.alloc (.cells (madeCells #[.int .i64 0] s.size) 3)) := run_make_row' _ _ _ 8 Try.underlying30 intInfo rfl .i64 .i64 s.size (by omega) (by omega)
  have hmm := fun w => run_makeMap (P := Try.prog) 73 w
  have hnew : Own w0 (((w.alloc (.map #[] 0)).alloc (.cells (madeCells #[.int .i64 0] s.size) 3)).alloc (.cells #[.string s, .map (some w.heap.size), .slice (some ⟨w.heap.size + 1, 0, none⟩) s.size s.size] 75)) (Fnd (w.heap.size + 1 + 1) s 0 :: ps) := by
    have h1 := (H.mpi_new (P := Try.prog) (K := 104) (E := 3) (enc := k3)).alloc2 (.cells (madeCells #[.int .i64 0] s.size) 3) (.cells #[.string s, .map (some w.heap.size), .slice (some ⟨w.heap.size + 1, 0, none⟩) s.size s.size] 75)
    have e : (w.alloc (.map #[] 0)).heap.size = w.heap.size + 1 := by simp
    rw [e] at h1
    have h2 := h1.swap.slc_mk (xs := nums (List.replicate s.size 0)) (n := s.size) (size := 1) (by simp [nums]) (Nat.le_refl _) (by simp [maxLen]; omega) (by simp [size_madeCells]) (by rw [toList_madeCells_one]; simp [nums])
    refine fnd_shut (b := w.heap.size) (v := .slice (some ⟨w.heap.size + 1, 0, none⟩) s.size s.size) (xs := List.replicate s.size 0) ⟨by simp, fun q h => by omega⟩ ?_
    rw [gOf_zero]
    exact (h2.swap.front 2 rfl).swap
  have HN := Lib.hid hnew
  clear hnew
  obtain ⟨W, hW⟩ : ∃ W, Hid (parseN s s.size 0 = W) := ⟨_, rfl⟩
  have hp : Hid (parse s = W) := Lib.hid hW.out
  rw [hp.out]
  go_enter Try.func21, Try.ntmps21
  go_upto_region 2 with (fail)
  have H1 := HN.out
  clear HN H
  generalize ((w.alloc (.map #[] 0)).alloc (.cells (madeCells #[.int .i64 0] s.size) 3)).alloc (.cells #[.string s, .map (some w.heap.size), .slice (some ⟨w.heap.size + 1, 0, none⟩) s.size s.size] 75) = wx at *
  generalize w.heap.size + 1 + 1 = g at *
  have H := (H1.nil 79 3).swap
  clear H1
  go_wp2_with fail
  go_loopw [4, 5] (fun s4 s5 wr => ∃ (i f : Nat) (l : List Tok), s5 = .int .i64 i ∧ i ≤ s.size ∧ s.size ≤ i + f ∧ Hid (l ++ parseN s f i = W) ∧ l.length ≤ i ∧ Own w0 wr (Fnd g s i :: slc 79 3 s4 l.length (rows tcell l) :: ps)) (fun _ s5 _ => s.size - (intOf s5).toNat)
  case atStart => exact ⟨0, s.size, [], by simp, by omega, by omega, hW, by simp, H⟩
  case round =>
    clear H
    obtain ⟨i, f, l, rfl, hi, hf, hl, hll, H⟩ := hrel
    by_cases hlt : i < s.size
    · have hltI : (i : Int) < (s.size : Int) := by omega
      obtain ⟨f, rfl⟩ : ∃ f', f = f' + 1 := ⟨f - 1, by omega⟩
      have hpn : parseN s (f + 1) i = tokAt s i :: parseN s f (i + stepAt s i) := by rw [parseN, if_pos hlt]
      have hsl := stepAt_le hlt
      have hsp := stepAt_pos s i
      have hst : stepAt s i = if 3 ≤ (found s i).1 then (found s i).1 else 1 := rfl
      have htk : tokAt s i = if 3 ≤ (found s i).1 then ⟨(found s i).1, (found s i).2, 0⟩ else ⟨0, 0, (byt s i).toNat⟩ := rfl
      obtain ⟨m, hm⟩ : ∃ m, Hid (stepAt s i = m) := ⟨_, rfl⟩
      obtain ⟨t, ht⟩ : ∃ t, Hid (tokAt s i = t) := ⟨_, rfl⟩
      rw [hm.out] at hst hpn hsl hsp
      rw [ht.out] at htk hpn
      have hl2 : Hid ((l ++ [t]) ++ parseN s f (i + m) = W) := Lib.hid (by rw [← hl.out, hpn]; simp)
      clear hl hpn
      obtain ⟨n, d, hF⟩ : ∃ n d, Hid (found s i = (n, d)) := ⟨_, _, rfl⟩
      rw [hF.out] at hst htk
      go_upto_region 5 with (fail)
      go_wp2_with fail
      refine (lzfind_any H hlt hs).mono ?_
      rintro e w1 ⟨_, rfl, rfl, H1⟩
      rw [hF.out]
      clear H
      have e0 := byt_is hlt
      have hx8 := (byt s i).toNat_lt
      have hwx : wrap64 (((byt s i).toNat : Nat) : Int) = (((byt s i).toNat : Nat) : Int) := IntWalk.wrap64_in _ ⟨by omega, by omega⟩
      obtain ⟨cv, hcv⟩ : ∃ cv, Hid (w1.heap.size = cv) := ⟨_, rfl⟩
      by_cases h3 : 3 ≤ n
      case pos =>
        have h3I : ¬ (n : Int) < 3 := by omega
        rw [if_pos h3] at hst htk
        subst hst
        have HT := Lib.hid htk
        clear htk hwx e0 hx8
        go_upto_region 10 with (refine wpList_store_agg rfl _ _ rfl rfl (H1.alloc _) rfl (by kernel_rfl) (by simp) (by simp; exact ⟨rfl, rfl, rfl⟩) rfl ?_; clear H1; intro w5 H; rw [hcv.out] at H ⊢)
        have H : Own w0 w5 (blk cv (.cells #[.int .i64 t.len, .int .i64 t.dist, .int .i64 t.lit] 79) :: Fnd g s i :: slc 79 3 u4 l.length (rows tcell l) :: ps) := by rw [HT.out]; exact H
        clear h3 h3I hF
        go_wp2_with fail
        go_loopw [5, 37] (fun s5 s37 wr => ∃ k : Nat, s5 = .int .i64 ((i + k : Nat) : Int) ∧ s37 = .int .i64 k ∧ k ≤ m ∧ Own w0 wr (blk cv (.cells #[.int .i64 t.len, .int .i64 t.dist, .int .i64 t.lit] 79) :: Fnd g s (i + k) :: slc 79 3 u4 l.length (rows tcell l) :: ps)) (fun _ s37 _ => m - (intOf s37).toNat)
        case atStart => exact ⟨0, by simp, by simp, by omega, H⟩
        case round =>
          clear H
          obtain ⟨k, rfl, rfl, hk, H⟩ := hrel
          by_cases hkm : k < m
          · have hkI : (k : Int) < (m : Int) := by omega
            obtain ⟨j, hj⟩ : ∃ j, Hid (i + k = j) := ⟨_, rfl⟩
            have hjs : j < s.size := by have := hj.out; omega
            rw [hj.out] at H ⊢
            go_wp2_with fail
            refine (fput_any H.swap hjs hs).mono ?_
            rintro e w6 ⟨_, rfl, H6⟩
            clear H
            go_wp2_with fail
            go_roundw
            case rel => exact ⟨k + 1, by have := hj.out; go_num; try omega, by go_num, by omega, (by rw [← Nat.add_assoc, hj.out]; exact H6.swap)⟩
            case measure => simp [intOf]; omega
          · have hkI : ¬ (k : Int) < (m : Int) := by omega
            have hke : m = k := by omega
            rw [hke] at hl2 hsl hsp
            have c0 := H.cells
            obtain ⟨a', c', rfl, h1', h2'⟩ := (H.front 2 rfl).rd.shape
            go_wp2_with (at_builtin; refine wpList_append_one rfl _ _ rfl Try.underlying53 tokInfo rfl (by decide) rfl (H.front 2 rfl) (news := tcell t) rfl rfl rfl (tcell_one t) (by omega) (by omega) ?_; clear H c0; intro v' w7 H)
            go_roundw
            case rel =>
              refine ⟨i + k, f, l ++ [t], by go_num, by omega, by omega, hl2, by simp; omega, ?_⟩
              rw [rows_append, rows_one, List.length_append]
              exact ((((H.front 2 rfl).front 2 rfl).drop))
            case measure => simp [intOf]; omega
      case neg =>
        have h3I : (n : Int) < 3 := by omega
        rw [if_neg h3] at hst htk
        subst hst
        have HT := Lib.hid htk
        clear htk
        go_upto_region 10 with (first
          | (refine wpList_store_agg rfl _ _ rfl rfl (H1.alloc _) rfl (by kernel_rfl) (by simp) (by simp; exact ⟨rfl, rfl, rfl⟩) rfl ?_; clear H1; intro w4 H4; rw [hcv.out] at H4 ⊢)
          | (refine wpList_store_agg (vs := tcell ⟨0, 0, (byt s i).toNat⟩) rfl _ _ rfl rfl H4 (by first | rfl | (go_simp; done)) (by kernel_rfl) (by simp [tcell]) (tcell_one _) rfl ?_; clear H4; intro w5 H))
        have H : Own w0 w5 (blk cv (.cells #[.int .i64 t.len, .int .i64 t.dist, .int .i64 t.lit] 79) :: Fnd g s i :: slc 79 3 u4 l.length (rows tcell l) :: ps) := by rw [HT.out]; exact H
        clear hwx e0 hx8
        clear h3 h3I hF
        go_wp2_with fail
        go_loopw [5, 37] (fun s5 s37 wr => ∃ k : Nat, s5 = .int .i64 ((i + k : Nat) : Int) ∧ s37 = .int .i64 k ∧ k ≤ 1 ∧ Own w0 wr (blk cv (.cells #[.int .i64 t.len, .int .i64 t.dist, .int .i64 t.lit] 79) :: Fnd g s (i + k) :: slc 79 3 u4 l.length (rows tcell l) :: ps)) (fun _ s37 _ => 1 - (intOf s37).toNat)
        case atStart => exact ⟨0, by simp, by simp, by omega, H⟩
        case round =>
          clear H
          obtain ⟨k, rfl, rfl, hk, H⟩ := hrel
          by_cases hkm : k < 1
          · have hkI : (k : Int) < 1 := by omega
            obtain ⟨j, hj⟩ : ∃ j, Hid (i + k = j) := ⟨_, rfl⟩
            have hjs : j < s.size := by have := hj.out; omega
            rw [hj.out] at H ⊢
            go_wp2_with fail
            refine (fput_any H.swap hjs hs).mono ?_
            rintro e w6 ⟨_, rfl, H6⟩
            clear H
            go_wp2_with fail
            go_roundw
            case rel => exact ⟨k + 1, by have := hj.out; go_num; try omega, by go_num, by omega, (by rw [← Nat.add_assoc, hj.out]; exact H6.swap)⟩
            case measure => simp [intOf]; omega
          · have hkI : ¬ (k : Int) < 1 := by omega
            obtain rfl : k = 1 := by omega
            have c0 := H.cells
            obtain ⟨a', c', rfl, h1', h2'⟩ := (H.front 2 rfl).rd.shape
            go_wp2_with (at_builtin; refine wpList_append_one rfl _ _ rfl Try.underlying53 tokInfo rfl (by decide) rfl (H.front 2 rfl) (news := tcell t) rfl rfl rfl (tcell_one t) (by omega) (by omega) ?_; clear H c0; intro v' w7 H)
            go_roundw
            case rel =>
              refine ⟨i + 1, f, l ++ [t], by go_num, by omega, by omega, hl2, by simp; omega, ?_⟩
              rw [rows_append, rows_one, List.length_append]
              exact ((((H.front 2 rfl).front 2 rfl).drop))
            case measure => simp [intOf]; omega
    · have hltI : ¬ (i : Int) < (s.size : Int) := by omega
      have hfin : Hid (l = W) := Lib.hid (by rw [← hl.out, parseN_end (by omega)]; simp)
      clear hl
      go_wp2
      go_ret
      refine ⟨_, rfl, ?_⟩
      rw [← hfin.out]
      exact H.drop
end Go.Proofs.Ytljejkdkjnbmhaa
/- Bits: a new writer. -/
namespace Go.Proofs.Ytljejkdkjnbmhaa
open Go.RowKit

/-- A new writer. -/
theorem Own.newWtr {w0 w : World} {ps : List Piece} (H : Own w0 w ps) : Own w0 (w.alloc (.cells #[.slice none 0 0, .int .i64 0] 50)) (Wtr w.heap.size [] :: ps) := by
  have h := (H.alloc (.cells #[.slice none 0 0, .int .i64 0] 50)).nil 5 1
  exact Own.unwtr (n := 0) h.swap rfl rfl rfl
end Go.Proofs.Ytljejkdkjnbmhaa
/- Bits: Writer.Bytes. -/
namespace Go.Proofs.Ytljejkdkjnbmhaa
open Go.RowKit

theorem bytes_any {w0 w : World} {ps : List Piece} {g : Nat} {bs : List Bool} (H : Own w0 w (Wtr g bs :: ps)) :
    Calls Try.prog 22 #[.pointer (some ⟨g, 0, none⟩)] w fun e w' => e = .returned (.string (textOf bs)) ∧ w' = w := by
  obtain ⟨a, cp, hc1, hc2, H⟩ := H.wtr
  have c0 := H.cells
  have hs := run_string_sep (P := Try.prog) 37 9 Try.underlying37 Try.underlying5 Try.underlying9 (H.front 1 rfl).rd
  rw [show strOfNums (bytesOf bs) = textOf bs from rfl] at hs
  obtain ⟨n, hn⟩ : ∃ n, n = nbytes bs.length := ⟨_, rfl⟩
  simp only [← hn] at hs c0
  clear hn
  go_enter Try.func22, Try.ntmps22
  go_wp2
  go_ret
  exact ⟨rfl, rfl⟩
end Go.Proofs.Ytljejkdkjnbmhaa
/- flate: the walks of a block by the fixed codes; of Simple. -/
namespace Go.Proofs.Ytljejkdkjnbmhaa
open Go.RowKit

theorem fix_sym {t : Tok} (h : TokOk t) : SymOk fixL fixD t := by
  refine ⟨h, fun h0 => ?_, fun h0 => ?_⟩
  · rw [fixL_ok.1]; rcases h with h | h <;> omega
  · have h1 : 3 ≤ t.len ∧ t.len ≤ 258 ∧ 1 ≤ t.dist ∧ t.dist ≤ 32768 := by rcases h with h | h <;> omega
    have h2 := lenSym_bd (n := t.len.toNat) (by omega)
    have h3 := distSym_bd (n := t.dist.toNat) (by omega)
    rw [fixL_ok.1, fixD_ok.1]
    omega
theorem fixL_wt : sumF wtF fixL ≤ 2 ^ 15 := (table_ok fixL_ok.2.2).2.2
theorem fixD_wt : sumF wtF fixD ≤ 2 ^ 15 := (table_ok fixD_ok.2.2).2.2
theorem parse_ok (s : ByteArray) : ∀ t ∈ parse s, TokOk t := by
  have key : ∀ f i, ∀ t ∈ parseN s f i, TokOk t := by
    intro f
    induction f with
    | zero => intro i t h; simp [parseN] at h
    | succ f ih =>
      intro i t h
      rw [parseN] at h
      split at h
      · rcases List.mem_cons.1 h with rfl | h
        · exact may_ok (n := i) tokAt_may
        · exact ih _ t h
      · simp at h
  exact key _ _
theorem parse_len (s : ByteArray) : (parse s).length ≤ s.size := by
  have key : ∀ f i, (parseN s f i).length ≤ f := by
    intro f
    induction f with
    | zero => intro i; simp [parseN]
    | succ f ih =>
      intro i
      rw [parseN]
      split
      · have := ih (i + stepAt s i); simp; omega
      · simp
  exact key _ _
theorem blockB_le {l : List Tok} (ht : ∀ t ∈ l, TokOk t) (last : Bool) : (blockB l 1 last).length ≤ 48 * l.length + 18 := by
  unfold blockB
  rw [if_pos rfl, List.length_append]
  have := bodyB_le fixL_bd fixD_bd ht
  simp [headB, bitsOf_length]
  omega

set_option maxRecDepth 100000 in
set_option maxHeartbeats 3200000 in
theorem block1_any {w0 w : World} {ps : List Piece} {g : Nat} {bs : List Bool} {tv : Value} {l : List Tok} (last : Bool) (ht : Reads w0 ps 3 tv l.length (rows tcell l)) (hs : ∀ t ∈ l, TokOk t) (H : Own w0 w (Wtr g bs :: ps)) (hl : bs.length + 48 * l.length ≤ 35184372070000) :
    Calls Try.prog 20 #[.pointer (some ⟨g, 0, none⟩), tv, .int .i64 1, .bool last] w (Ret fun _ w' => Own w0 w' (Wtr g (bs ++ blockB l 1 last) :: ps)) := by
  obtain ⟨ta, tc, rfl, ht1, ht2⟩ := (ht w H.drop).shape
  have h1 := head_any last 1 (by omega) H (by omega)
  have hB : Hid (bs ++ blockB l 1 last = bs ++ headB last 1 ++ bodyB fixL fixD l) := Lib.hid (by unfold blockB; rw [if_pos rfl, List.append_assoc])
  have hBl : (bs ++ headB last 1).length ≤ bs.length + 3 := by rw [List.length_append]; simp [headB, bitsOf_length]
  rw [hB.out]
  obtain ⟨B, hB2⟩ : ∃ B, Hid (bs ++ headB last 1 = B) := ⟨_, rfl⟩
  rw [hB2.out] at h1 hBl ⊢
  obtain ⟨N, hN⟩ : ∃ N, Hid (l.length = N) := ⟨_, rfl⟩
  have HS := Lib.hid hs
  have H1 := Lib.hid h1
  have HT := Lib.hid ht
  rw [hN.out] at hl ht1 HT ⊢
  clear h1 hs ht
  go_enter Try.func20, Try.ntmps20
  go_wp2_with fail
  refine H1.out.mono ?_
  rintro e w1 ⟨_, rfl, H2⟩
  clear H
  go_wp2_with fail
  refine (fixed_any _).mono ?_
  rintro e w2 ⟨_, rfl, v, u, rfl, H3⟩
  have H := H2.join H3
  clear H2 H3
  obtain ⟨av, cv, rfl, -⟩ := (H.front 1 rfl).rd.shape
  obtain ⟨au, cu, rfl, -⟩ := (H.front 0 rfl).rd.shape
  go_wp2_with fail
  refine (made_any (H.front 1 rfl).rd (by omega) fixL_ok.2.1).mono ?_
  rintro e w3 ⟨_, rfl, vc, rfl, H3⟩
  replace H := H.join H3
  clear H3
  obtain ⟨a5, c5, rfl, -⟩ := (H.front 0 rfl).rd.shape
  go_wp2_with fail
  refine (made_any (H.front 1 rfl).rd (by omega) fixD_ok.2.1).mono ?_
  rintro e w4 ⟨_, rfl, uc, rfl, H3⟩
  replace H := H.join H3
  clear H3
  obtain ⟨a6, c6, rfl, -⟩ := (H.front 0 rfl).rd.shape
  rw [fixL_ok.1, fixD_ok.1] at H
  have H : Own w0 w4 (Wtr g B :: slc 3 1 (.slice a6 32 c6) 32 (nums (codesF fixD)) :: slc 3 1 (.slice a5 288 c5) 288 (nums (codesF fixL)) :: slc 3 1 (.slice au 32 cu) 32 (nums fixD) :: slc 3 1 (.slice av 288 cv) 288 (nums fixL) :: ps) := H.front 4 rfl
  have hL : CodOk w0 (slc 3 1 (.slice a6 32 c6) 32 (nums (codesF fixD)) :: slc 3 1 (.slice a5 288 c5) 288 (nums (codesF fixL)) :: slc 3 1 (.slice au 32 cu) 32 (nums fixD) :: slc 3 1 (.slice av 288 cv) 288 (nums fixL) :: ps) (.slice av 288 cv) (.slice a5 288 c5) fixL := ⟨fun w' h => by rw [fixL_ok.1]; exact (h.front 3 rfl).rd, fun w' h => by rw [fixL_ok.1]; exact (h.front 1 rfl).rd, fixL_bd, fixL_wt, by rw [fixL_ok.1]; omega⟩
  have hD : CodOk w0 (slc 3 1 (.slice a6 32 c6) 32 (nums (codesF fixD)) :: slc 3 1 (.slice a5 288 c5) 288 (nums (codesF fixL)) :: slc 3 1 (.slice au 32 cu) 32 (nums fixD) :: slc 3 1 (.slice av 288 cv) 288 (nums fixL) :: ps) (.slice au 32 cu) (.slice a6 32 c6) fixD := ⟨fun w' h => by rw [fixD_ok.1]; exact (h.front 2 rfl).rd, fun w' h => by rw [fixD_ok.1]; exact h.rd, fixD_bd, fixD_wt, by rw [fixD_ok.1]; omega⟩
  have hb := body_any hL hD (l := l) (tv := .slice ta N tc) (by rw [hN.out]; exact HT.out.mono fun w' h => h.drop.drop.drop.drop) (fun t h => fix_sym (HS.out t h)) (by rw [fixL_ok.1]; omega) H (by rw [hN.out]; omega)
  have HB := Lib.hid hb
  clear hb hL hD
  go_wp2_with fail
  refine HB.out.mono ?_
  rintro e w5 ⟨_, rfl, H5⟩
  go_wp2_with fail
  go_end0
  exact ⟨_, rfl, (((((H5.front 4 rfl).front 4 rfl).front 4 rfl).front 4 rfl).drop.drop.drop.drop)⟩
/-- The text packed by the fixed codes. -/
def simpleF (s : ByteArray) : ByteArray := textOf (blockB (parse s) 1 true)
set_option maxRecDepth 100000 in
theorem simple_any {w : World} (s : ByteArray) (hs : s.size ≤ 1000000) :
    Calls Try.prog 19 #[.string s] w (Ret fun r w' => r = .string (simpleF s) ∧ Own w w' []) := by
  have H := (Own.start w).newWtr
  obtain ⟨T, hT⟩ : ∃ T, Hid (parse s = T) := ⟨_, rfl⟩
  have hok := parse_ok s
  have hlen := parse_len s
  unfold simpleF
  rw [hT.out] at hok hlen ⊢
  have HOK := Lib.hid hok
  clear hok
  go_enter Try.func19, Try.ntmps19
  go_wp2_with fail
  generalize w.alloc _ = w1 at *
  generalize w.heap.size = g at *
  refine (lzparse_any H hs).mono ?_
  rintro e w2 ⟨v, rfl, H2⟩
  rw [hT.out] at H2
  clear H
  obtain ⟨a, c, rfl, -⟩ := H2.rd.shape
  have hb := block1_any (l := T) true (fun w' h => h.rd) HOK.out H2.swap (by simp; omega)
  rw [List.nil_append] at hb
  have HB := Lib.hid hb
  clear hb
  obtain ⟨N, hN⟩ : ∃ N, Hid (T.length = N) := ⟨_, rfl⟩
  rw [hN.out] at HB ⊢
  go_wp2_with fail
  refine HB.out.mono ?_
  rintro e w3 ⟨_, rfl, H3⟩
  clear H2
  go_wp2_with fail
  refine (bytes_any H3).mono ?_
  rintro e w4 ⟨rfl, rfl⟩
  go_wp2_with fail
  go_ret
  exact ⟨_, rfl, rfl, H3.bare⟩
end Go.Proofs.Ytljejkdkjnbmhaa
/- flate: the walk of rich. -/
namespace Go.Proofs.Ytljejkdkjnbmhaa
open Go.RowKit

set_option maxRecDepth 100000 in
set_option maxHeartbeats 25600000 in
theorem rich_any {w0 w : World} {ps : List Piece} {g : Nat} {bs : List Bool} {tv : Value} {l : List Tok} (last : Bool) (ht : Reads w0 ps 3 tv l.length (rows tcell l)) (hs : ∀ t ∈ l, TokOk t) (hln : l.length ≤ 1000000) (H : Own w0 w (Wtr g bs :: ps)) (hl : bs.length + 48 * l.length ≤ 35184372000000) :
    Calls Try.prog 39 #[.pointer (some ⟨g, 0, none⟩), tv, .bool last] w (Ret fun _ w' => Own w0 w' (Wtr g (bs ++ blockB l 2 last) :: ps)) := by
  obtain ⟨ta, tc, rfl, ht1, ht2⟩ := (ht w H.drop).shape
  obtain ⟨L, hL⟩ : ∃ L, Hid (richL l = L) := ⟨_, Lib.hid rfl⟩
  obtain ⟨D, hD⟩ : ∃ D, Hid (richD l = D) := ⟨_, Lib.hid rfl⟩
  obtain ⟨RS, hRS⟩ : ∃ RS, Hid (richR l = RS) := ⟨_, Lib.hid rfl⟩
  obtain ⟨RL, hRL⟩ : ∃ RL, Hid (runL RS = RL) := ⟨_, Lib.hid rfl⟩
  obtain ⟨SO, hSO⟩ : ∃ SO, Hid (sortedF RL = SO) := ⟨_, Lib.hid rfl⟩
  have mL := richL_made hs hln
  have mD := richD_made hs hln
  have okR := richR_ok hs hln
  have lenR := richR_len hs hln
  have oks : ∀ t ∈ l, SymOk (richL l) (richD l) t := fun t h => rich_sym hs hln h
  have oL := lit_ok hs hln
  have oD := dist_ok hs hln
  have hB : Hid (bs ++ blockB l 2 last = bs ++ headB last 2 ++ (sizesB L.length D.length SO.length ++ (lensB SO ++ (runsB RL RS ++ bodyB L D l)))) := Lib.hid (by
    unfold blockB richB
    rw [if_neg (by omega), hRS.out, hRL.out, hSO.out, hL.out, hD.out, List.append_assoc])
  rw [hB.out]
  rw [hRS.out] at okR lenR
  have mR := runL_made okR (by omega)
  have m7 := sorted_7 okR (by omega)
  have mS := sorted_len RL
  have oR := run_ok okR (by omega)
  rw [hL.out] at mL oks
  rw [hD.out] at mD oks
  rw [hRL.out] at mR m7
  rw [hSO.out] at m7 mS
  obtain ⟨N, hN⟩ : ∃ N, Hid (l.length = N) := ⟨_, Lib.hid rfl⟩
  have HS := Lib.hid hs
  have HT := Lib.hid ht
  have ML := Lib.hid mL
  have MD := Lib.hid mD
  have MR := Lib.hid mR
  have M7 := Lib.hid m7
  have OKR := Lib.hid okR
  have OKS := Lib.hid oks
  have OL := Lib.hid oL
  have OD := Lib.hid oD
  have OR := Lib.hid oR
  obtain ⟨hS1, hS2⟩ := mS
  have k0 := fun w1 h => counted2_any (ht w1 h) hs hln
  rw [hN.out] at HT ht1 hl hln k0 ⊢
  have K0 := Lib.hid k0
  clear hs ht mL mD okR oks oL oD mR m7 oR k0
  go_enter Try.func39, Try.ntmps39
  go_wp2_with fail
  refine (K0.out _ H.drop).mono ?_
  rintro e w1 ⟨_, rfl, v1, u1, rfl, J⟩
  replace H := H.join J
  clear J
  obtain ⟨a1, c1, rfl, -⟩ := H.rd.shape
  obtain ⟨a2, c2, rfl, -⟩ := (H.front 1 rfl).rd.shape
  have kl := lengths_any (L := 15) H.rd (by omega)
  have hel : errF (litFq l) 15 = 0 := errF_ok (by omega) (by rw [litFq_len]; omega) OL.out.freq (by rw [litFq_len]; decide)
  have hed : errF (distFq l) 15 = 0 := errF_ok (by omega) (by rw [distFq_len]; omega) OD.out.freq (by rw [distFq_len]; decide)
  rw [hel] at kl
  have KL := Lib.hid kl
  clear kl hel
  go_wp2_with fail
  refine KL.out.mono ?_
  rintro e w2 ⟨_, rfl, v3, rfl, J⟩
  replace H := H.join J
  clear J KL
  have kd := lengths_any (L := 15) (H.front 2 rfl).rd (by omega)
  rw [hed] at kd
  have KD := Lib.hid kd
  clear kd hed
  rw [OL.out.len, litFq_len] at H
  obtain ⟨g3, c3, rfl, -⟩ := H.at (by rw [nums_length, OL.out.len, litFq_len]; omega)
  go_wp2_with fail
  refine KD.out.mono ?_
  rintro e w3 ⟨_, rfl, v4, rfl, J⟩
  replace H := H.join J
  clear J KD
  rw [OD.out.len, distFq_len] at H
  obtain ⟨g4, c4, rfl, -⟩ := H.at (by rw [nums_length, OD.out.len, distFq_len]; omega)
  have H : Own w0 w3 (slc 3 1 (.slice (some ⟨g3, 0, none⟩) 286 c3) 286 (nums (resF (litFq l) 15)) :: slc 3 1 (.slice (some ⟨g4, 0, none⟩) 30 c4) 30 (nums (resF (distFq l) 15)) :: Wtr g bs :: ps) := ((((H.front 1 rfl).front 3 rfl).front 3 rfl).drop.drop)
  have kt := fun w1 (h : Own w0 w1 (slc 3 1 (.slice (some ⟨g3, 0, none⟩) 286 c3) 286 (nums (resF (litFq l) 15)) :: slc 3 1 (.slice (some ⟨g4, 0, none⟩) 30 c4) 30 (nums (resF (distFq l) 15)) :: Wtr g bs :: ps)) => trim_own 257 h (by rw [OL.out.len, litFq_len]) (by omega) (by omega)
  have kt2 := fun w1 (qs : List Piece) (h : Own w0 w1 (slc 3 1 (.slice (some ⟨g4, 0, none⟩) 30 c4) 30 (nums (resF (distFq l) 15)) :: qs)) => trim_own 1 h (by rw [OD.out.len, distFq_len]) (by omega) (by omega)
  rw [show trimF (resF (litFq l) 15) 257 = L from hL.out] at kt
  have hD2 : trimF (resF (distFq l) 15) 1 = D := hD.out
  simp only [hD2] at kt2
  have KT := Lib.hid kt
  have KT2 := Lib.hid kt2
  clear kt kt2 hD2
  go_wp2_with fail
  refine (KT.out _ H).mono ?_
  rintro e w4 ⟨_, rfl, rfl, H4⟩
  clear H
  go_wp2_with fail
  refine (KT2.out _ _ H4.swap).mono ?_
  rintro e w5 ⟨_, rfl, rfl, H⟩
  clear H4 KT KT2
  obtain ⟨nL, hnL⟩ : ∃ n, Hid (L.length = n) := ⟨_, Lib.hid rfl⟩
  obtain ⟨nD, hnD⟩ : ∃ n, Hid (D.length = n) := ⟨_, Lib.hid rfl⟩
  have hnL1 := ML.out.lo
  have hnL2 := ML.out.hi
  have hnD1 := MD.out.lo
  have hnD2 := MD.out.hi
  rw [hnL.out] at H hnL1 hnL2 ⊢
  rw [hnD.out] at H hnD1 hnD2 ⊢
  go_wp2_with fail
  have H5 := H.alloc (.cells #[.slice (some ⟨g3, 0, none⟩) nL c3, .slice (some ⟨g4, 0, none⟩) nD c4] 30)
  have hrow : Rd (w5.alloc (.cells #[.slice (some ⟨g3, 0, none⟩) nL c3, .slice (some ⟨g4, 0, none⟩) nD c4] 30)) 1 (.slice (some ⟨w5.heap.size, 0, none⟩) 2 2) 2 [.slice (some ⟨g3, 0, none⟩) nL c3, .slice (some ⟨g4, 0, none⟩) nD c4] := by
    refine ⟨rfl, _, _, rfl, Nat.le_refl _, by decide, by simp, fun ad had j u hu => ?_⟩
    obtain rfl := Option.some.inj had
    rw [Addr.add_lit, Nat.zero_add, H5.cell]
    simpa using hu
  have hcc := concat_any [L, D] [.slice (some ⟨g3, 0, none⟩) nL c3, .slice (some ⟨g4, 0, none⟩) nD c4] hrow rfl rfl (by omega) (fun k u X hu hX => by
    match k with
    | 0 => cases hu; cases hX; rw [hnL.out]; exact (H5.front 2 rfl).rd
    | 1 => cases hu; cases hX; rw [hnD.out]; exact (H5.front 1 rfl).rd
    | k + 2 => cases hu) (by simp [hnL.out, hnD.out]; omega)
  have hfl : [L, D].flatten = L ++ D := by simp
  have hfll : (L ++ D).length = nL + nD := by rw [List.length_append, hnL.out, hnD.out]
  rw [hfl, hfll] at hcc
  have HCC := Lib.hid hcc
  have H6 : Own w0 (w5.alloc (.cells #[.slice (some ⟨g3, 0, none⟩) nL c3, .slice (some ⟨g4, 0, none⟩) nD c4] 30)) (slc 3 1 (.slice (some ⟨g3, 0, none⟩) nL c3) nL (nums L) :: slc 3 1 (.slice (some ⟨g4, 0, none⟩) nD c4) nD (nums D) :: Wtr g bs :: ps) := (H5.drop).swap
  clear hcc hrow H5 H hfl hfll
  generalize w5.alloc _ = w6 at *
  generalize w5.heap.size = gr at *
  refine HCC.out.mono ?_
  rintro e w7 ⟨v7, rfl, J⟩
  have H := H6.join J
  clear J HCC H6
  have hrn := runs_any H.rd (by omega)
  rw [show runsF (L ++ D) = RS by rw [← hRS.out, ← hL.out, ← hD.out]; rfl] at hrn
  have HRN := Lib.hid hrn
  clear hrn
  obtain ⟨a7, c7, rfl, -⟩ := H.rd.shape
  obtain ⟨nR, hnR⟩ : ∃ n, Hid (RS.length = n) := ⟨_, Lib.hid rfl⟩
  rw [hnR.out] at HRN lenR
  go_wp2_with fail
  refine HRN.out.mono ?_
  rintro e w8 ⟨v8, rfl, J⟩
  have H8 := H.join J
  clear J HRN H
  obtain ⟨a8, c8, rfl, -⟩ := H8.rd.shape
  have H : Own w0 w8 (slc 102 3 (.slice a8 nR c8) nR (rows rcell RS) :: slc 3 1 (.slice (some ⟨g3, 0, none⟩) nL c3) nL (nums L) :: slc 3 1 (.slice (some ⟨g4, 0, none⟩) nD c4) nD (nums D) :: Wtr g bs :: ps) := ((H8.front 1 rfl).drop)
  clear H8
  have hmk : ∀ w : World, (Instr.makeSlice 30 (.int .i64 19) (.int .i64 19)).run Try.prog w = .ok (.slice (some ⟨w.heap.size, 0, none⟩) 19 19) (w.alloc (.cells (madeCells #[.int .i64 0] 19) 3)) := run_make_row' _ _ _ 8 Try.underlying30 intInfo rfl .i64 .i64 19 (by omega) (by omega)
  go_upto_region 6 with (fail)
  have h9 := (H.alloc (.cells (madeCells #[.int .i64 0] 19) 3)).slc_mk (xs := nums (runFq (RS.take 0))) (n := 19) (size := 1) (by rw [nums_length, runFq_len]) (Nat.le_refl _) (by simp [maxLen]) (by simp [size_madeCells]) (by rw [toList_madeCells_one]; rfl)
  clear H hmk
  generalize w8.alloc _ = w9 at *
  generalize w8.heap.size = gf at *
  have H := h9
  clear h9
  go_wp2_with fail
  go_loopw [53] (fun s53 wx => ∃ k : Nat, s53 = .int .i64 k ∧ k ≤ nR ∧ Own w0 wx (slc 3 1 (.slice (some ⟨gf, 0, none⟩) 19 19) 19 (nums (runFq (RS.take k))) :: slc 102 3 (.slice a8 nR c8) nR (rows rcell RS) :: slc 3 1 (.slice (some ⟨g3, 0, none⟩) nL c3) nL (nums L) :: slc 3 1 (.slice (some ⟨g4, 0, none⟩) nD c4) nD (nums D) :: Wtr g bs :: ps)) (fun s53 _ => nR - (intOf s53).toNat)
  case atStart => exact ⟨0, by go_num, by omega, H⟩
  case round =>
    clear H
    obtain ⟨k, rfl, hk, H⟩ := hrel
    by_cases hlt : k < nR
    · have hI : (k : Int) < (nR : Int) := by omega
      obtain ⟨t, htk⟩ := get_of_lt (l := RS) (k := k) (by rw [hnR.out]; exact hlt)
      have hok := OKR.out t (List.mem_of_getElem? htk)
      have hls := made_freq RS k t htk
      obtain ⟨b, o, _, he2, -⟩ := (H.front 1 rfl).rd.some (by rw [rows_length rcell rcell_length, hnR.out]; omega)
      cases he2
      obtain ⟨c0, cc1, cc2⟩ := run_cells (H.front 1 rfl).rd htk
      have hkl : Hid (∀ j, 0 ≤ (runFq (RS.take k)).getD j 0 ∧ (runFq (RS.take k)).getD j 0 ≤ 100000) := Lib.hid (fun j => by
        rw [runFq_get (fun r h => OKR.out r (List.mem_of_mem_take h))]
        have := List.countP_le_length (p := fun x : Int => decide (x = (j : Int))) (l := (RS.take k).map Run.sym)
        rw [List.length_map, List.length_take] at this
        omega)
      have hfl := runFq_len (RS.take k)
      obtain ⟨hsy, -, -⟩ := hok
      obtain ⟨x, y, z⟩ := t
      simp only at c0 cc1 cc2 hsy hls
      obtain ⟨s, rfl⟩ : ∃ s : Nat, x = s := ⟨x.toNat, by omega⟩
      have hst := nums_bump (runFq (RS.take k)) s
      rw [← hls] at hst
      have cf := H.getc (nums_get (getD_get (F := runFq (RS.take k)) (i := s) (by omega)))
      have hb := hkl.out s
      obtain ⟨v, hv⟩ : ∃ v, (runFq (RS.take k)).getD s 0 = v := ⟨_, rfl⟩
      rw [hv] at hb cf hst
      have hw : IntKind.i64.wrap (v + 1) = v + 1 := IntWalk.i64_in _ ⟨by omega, by omega⟩
      have hsI : (s : Int) < 19 := by omega
      have HST := Lib.hid hst
      have hs19 : s < 19 := by omega
      have CF := Lib.hid (show (nums (runFq (RS.take k)))[s]? = some (.int .i64 v) by rw [← hv]; exact nums_get (getD_get (by omega)))
      clear htk hls hkl hfl hv hst cf
      go_upto_region 9 with (refine wpList_store_agg (vs := [.int .i64 s, .int .i64 y, .int .i64 z]) rfl _ _ rfl rfl (H.alloc _) rfl (by kernel_rfl) (by simp) (by simp; exact ⟨rfl, rfl, rfl⟩) rfl ?_; clear c0 cc1 cc2; intro w10 H10)
      clear H
      generalize wr.heap.size = tb at *
      have c0 := H10.cells
      have cf := (H10.front 1 rfl).getc CF.out
      go_wp2_with (refine wpList_store_slc rfl _ _ rfl rfl (H10.front 1 rfl) (.int .i64 (v + 1)) rfl (by kernel_rfl) hs19 rfl ?_; clear H10 c0 cf; intro w11 H; rw [HST.out] at H)
      go_roundw
      case rel => exact ⟨k + 1, by go_num, by omega, H.swap.drop⟩
      case measure => simp [intOf]; omega
    · obtain rfl : k = nR := by omega
      have hI : ¬ (k : Int) < (k : Int) := by omega
      have htk : RS.take k = RS := List.take_of_length_le (by rw [hnR.out]; exact Nat.le_refl _)
      rw [htk] at H
      have kl := lengths_any (L := 7) H.rd (by omega)
      have hel : errF (runFq RS) 7 = 0 := errF_ok (by omega) (by rw [runFq_len]; omega) OR.out.freq (by rw [runFq_len]; decide)
      have hrl : resF (runFq RS) 7 = RL := hRL.out
      have hrll : RL.length = 19 := by have := MR.out.lo; have := MR.out.hi; omega
      rw [hel, hrl, hrll] at kl
      have KL := Lib.hid kl
      have HRLL := Lib.hid hrll
      clear kl hel hrl htk hrll
      go_wp2_with fail
      refine KL.out.mono ?_
      rintro e w12 ⟨_, rfl, v5, rfl, J⟩
      replace H := H.join J
      clear J KL
      obtain ⟨g5, c5, rfl, -⟩ := H.at (by rw [nums_length, HRLL.out]; omega)
      have H : Own w0 w12 (slc 3 1 (.slice (some ⟨g5, 0, none⟩) 19 c5) 19 (nums RL) :: slc 102 3 (.slice a8 k c8) k (rows rcell RS) :: slc 3 1 (.slice (some ⟨g3, 0, none⟩) nL c3) nL (nums L) :: slc 3 1 (.slice (some ⟨g4, 0, none⟩) nD c4) nD (nums D) :: Wtr g bs :: ps) := ((H.front 1 rfl).drop)
      go_wp2_with fail
      refine (order_any _).mono ?_
      rintro e w13 ⟨_, rfl, rfl, J⟩
      have H : Own w0 w13 (slc 3 1 (.slice (some ⟨g5, 0, none⟩) 19 c5) 19 (nums RL) :: slc 102 3 (.slice a8 k c8) k (rows rcell RS) :: slc 3 1 (.slice (some ⟨g3, 0, none⟩) nL c3) nL (nums L) :: slc 3 1 (.slice (some ⟨g4, 0, none⟩) nD c4) nD (nums D) :: Wtr g bs :: ps) := H.join J
      clear J
      have hord : Hid (∀ j, j < 19 → (nums (ordF.map Int.ofNat)).toArray[j]? = some (.int .i64 ((ordF.getD j 0 : Nat) : Int)) ∧ ordF.getD j 0 < 19) := Lib.hid (fun j hj => by
        have := (show ∀ j : Fin 19, ordF.getD j.1 0 < 19 ∧ (ordF.map Int.ofNat)[j.1]? = some ((ordF.getD j.1 0 : Nat) : Int) by decide) ⟨j, hj⟩
        refine ⟨?_, this.1⟩
        rw [List.getElem?_toArray]
        exact nums_get this.2)
      have hordl : Hid ((nums (ordF.map Int.ofNat)).toArray.size = 19) := Lib.hid rfl
      generalize (nums (ordF.map Int.ofNat)).toArray = OA at *
      replace H := H.nil 3 1
      go_wp2_with fail
      obtain ⟨MO, hMO0⟩ : ∃ MO, Hid ((ordF.map fun s => RL.getD s 0) = MO) := ⟨_, Lib.hid rfl⟩
      have hMO : Hid (MO.length = 19) := Lib.hid (by rw [← hMO0.out, List.length_map]; rfl)
      have hMg : Hid (∀ j, j < 19 → MO.getD j 0 = RL.getD (ordF.getD j 0) 0) := Lib.hid (fun j hj => by
        rw [← hMO0.out, List.getD_eq_getElem?_getD, List.getElem?_map, List.getD_eq_getElem?_getD (l := ordF)]
        rw [List.getElem?_eq_getElem (show j < ordF.length from hj)]
        rfl)
      have hSO2 : Hid (trimF MO 4 = SO) := Lib.hid (by rw [← hMO0.out]; exact hSO.out)
      go_loopw [18, 71] (fun s18 s71 wx => ∃ i : Nat, s71 = .int .i64 i ∧ i ≤ 19 ∧ Own w0 wx (slc 3 1 s18 i (nums (MO.take i)) :: slc 3 1 (.slice (some ⟨g5, 0, none⟩) 19 c5) 19 (nums RL) :: slc 102 3 (.slice a8 k c8) k (rows rcell RS) :: slc 3 1 (.slice (some ⟨g3, 0, none⟩) nL c3) nL (nums L) :: slc 3 1 (.slice (some ⟨g4, 0, none⟩) nD c4) nD (nums D) :: Wtr g bs :: ps)) (fun _ s71 _ => 19 - (intOf s71).toNat)
      case atStart => exact ⟨0, by go_num, by omega, H⟩
      case round =>
        clear H
        obtain ⟨i, rfl, hi, H⟩ := hrel
        obtain ⟨a9, c9, rfl, -⟩ := H.rd.shape
        by_cases hi19 : i < 19
        · have hiI : (i : Int) < 19 := by omega
          obtain ⟨ho1, ho2⟩ := hord.out i hi19
          have hmg := hMg.out i hi19
          have hsn : Hid (nums (MO.take i) ++ [.int .i64 (MO.getD i 0)] = nums (MO.take (i + 1))) := Lib.hid (by
            rw [List.take_add_one, getD_get (by rw [hMO.out]; exact hi19)]; simp [nums])
          have cr := (H.front 1 rfl).getc (nums_get (getD_get (F := RL) (i := ordF.getD i 0) (by rw [HRLL.out]; exact ho2)))
          rw [← hmg] at cr
          have hix : ∀ w, (Instr.index 89 (.agg OA) (.int .i64 i)).run Try.prog w = .ok (.int .i64 ((ordF.getD i 0 : Nat) : Int)) w := fun w => run_index_arr _ _ 19 OA i _ w Try.underlying89 (fun w => (int_one w).1) (fun w => (int_one w).2) hi19 ho1
          have ho2I : ((ordF.getD i 0 : Nat) : Int) < 19 := by omega
          obtain ⟨oj, hoj⟩ : ∃ oj, ordF.getD i 0 = oj := ⟨_, rfl⟩
          obtain ⟨mv, hmv⟩ : ∃ mv, MO.getD i 0 = mv := ⟨_, rfl⟩
          rw [hoj] at ho1 ho2 ho2I cr hix
          rw [hmv] at hsn cr
          clear hoj hmv
          clear hmg
          go_wp2_with (at_builtin; refine wpList_append_one rfl _ _ rfl Try.underlying30 intInfo rfl (by decide) rfl H (news := [.int .i64 mv]) rfl rfl rfl (by simp [Value.oneCell']) (by omega) (by omega) ?_; clear H cr; intro v' w' H; rw [hsn.out] at H; obtain ⟨a10, c10, rfl, -⟩ := H.rd.shape)
          go_roundw
          case rel => exact ⟨i + 1, by go_num, by omega, H⟩
          case measure => simp [intOf]; omega
        · obtain rfl : i = 19 := by omega
          have hiI : ¬ (((19 : Nat) : Int) < 19) := by omega
          rw [List.take_of_length_le (by rw [hMO.out]; exact Nat.le_refl _)] at H
          obtain ⟨g6, c6, he6, -⟩ := H.at (by rw [nums_length, hMO.out]; omega)
          cases he6
          have kt := fun w1 (h : Own w0 w1 (slc 3 1 (.slice (some ⟨g6, 0, none⟩) 19 c9) 19 (nums MO) :: slc 3 1 (.slice (some ⟨g5, 0, none⟩) 19 c5) 19 (nums RL) :: slc 102 3 (.slice a8 k c8) k (rows rcell RS) :: slc 3 1 (.slice (some ⟨g3, 0, none⟩) nL c3) nL (nums L) :: slc 3 1 (.slice (some ⟨g4, 0, none⟩) nD c4) nD (nums D) :: Wtr g bs :: ps)) => trim_own 4 h hMO.out (by omega) (by omega)
          rw [hSO2.out] at kt
          have KT := Lib.hid kt
          clear kt
          go_wp2_with fail
          refine (KT.out _ H).mono ?_
          rintro e w14 ⟨_, rfl, rfl, H14⟩
          clear H KT
          obtain ⟨nS, hnS⟩ : ∃ n, Hid (SO.length = n) := ⟨_, Lib.hid rfl⟩
          rw [hnS.out] at H14 hS1 hS2 ⊢
          have H : Own w0 w14 (Wtr g bs :: slc 3 1 (.slice (some ⟨g6, 0, none⟩) nS c9) nS (nums SO) :: slc 3 1 (.slice (some ⟨g5, 0, none⟩) 19 c5) 19 (nums RL) :: slc 102 3 (.slice a8 k c8) k (rows rcell RS) :: slc 3 1 (.slice (some ⟨g3, 0, none⟩) nL c3) nL (nums L) :: slc 3 1 (.slice (some ⟨g4, 0, none⟩) nD c4) nD (nums D) :: ps) := H14.front 5 rfl
          clear H14
          go_wp2_with fail
          have k1 := fun w1 h => head_any (w := w1) (w0 := w0) (ps := slc 3 1 (.slice (some ⟨g6, 0, none⟩) nS c9) nS (nums SO) :: slc 3 1 (.slice (some ⟨g5, 0, none⟩) 19 c5) 19 (nums RL) :: slc 102 3 (.slice a8 k c8) k (rows rcell RS) :: slc 3 1 (.slice (some ⟨g3, 0, none⟩) nL c3) nL (nums L) :: slc 3 1 (.slice (some ⟨g4, 0, none⟩) nD c4) nD (nums D) :: ps) (g := g) (bs := bs) last 2 (by omega) h (by omega)
          obtain ⟨W1, hW1⟩ : ∃ W, Hid (bs ++ headB last 2 = W) := ⟨_, Lib.hid rfl⟩
          have hW1l : W1.length = bs.length + 3 := by rw [← hW1.out, List.length_append]; simp [headB, bitsOf_length]
          rw [hW1.out] at k1
          have e1 : (nL : Int) - 256 - 1 = (nL : Int) - 257 := by omega
          have k2 := fun w1 h => put_any (w := w1) (w0 := w0) (ps := slc 3 1 (.slice (some ⟨g6, 0, none⟩) nS c9) nS (nums SO) :: slc 3 1 (.slice (some ⟨g5, 0, none⟩) 19 c5) 19 (nums RL) :: slc 102 3 (.slice a8 k c8) k (rows rcell RS) :: slc 3 1 (.slice (some ⟨g3, 0, none⟩) nL c3) nL (nums L) :: slc 3 1 (.slice (some ⟨g4, 0, none⟩) nD c4) nD (nums D) :: ps) (g := g) (bs := W1) ((nL : Int) - 256 - 1) 5 (by omega) (by omega) h (by omega)
          have k3 := fun w1 h => put_any (w := w1) (w0 := w0) (ps := slc 3 1 (.slice (some ⟨g6, 0, none⟩) nS c9) nS (nums SO) :: slc 3 1 (.slice (some ⟨g5, 0, none⟩) 19 c5) 19 (nums RL) :: slc 102 3 (.slice a8 k c8) k (rows rcell RS) :: slc 3 1 (.slice (some ⟨g3, 0, none⟩) nL c3) nL (nums L) :: slc 3 1 (.slice (some ⟨g4, 0, none⟩) nD c4) nD (nums D) :: ps) (g := g) (bs := W1 ++ bitsOf ((nL : Int) - 257) 5) ((nD : Int) - 1) 5 (by omega) (by omega) h (by rw [List.length_append, bitsOf_length]; omega)
          have k4 := fun w1 h => put_any (w := w1) (w0 := w0) (ps := slc 3 1 (.slice (some ⟨g6, 0, none⟩) nS c9) nS (nums SO) :: slc 3 1 (.slice (some ⟨g5, 0, none⟩) 19 c5) 19 (nums RL) :: slc 102 3 (.slice a8 k c8) k (rows rcell RS) :: slc 3 1 (.slice (some ⟨g3, 0, none⟩) nL c3) nL (nums L) :: slc 3 1 (.slice (some ⟨g4, 0, none⟩) nD c4) nD (nums D) :: ps) (g := g) (bs := W1 ++ bitsOf ((nL : Int) - 257) 5 ++ bitsOf ((nD : Int) - 1) 5) ((nS : Int) - 4) 4 (by omega) (by omega) h (by rw [List.length_append, List.length_append, bitsOf_length, bitsOf_length]; omega)
          rw [show cut 5 = 5 from rfl, e1] at k2
          rw [show cut 5 = 5 from rfl] at k3
          rw [show cut 4 = 4 from rfl] at k4
          obtain ⟨W2, hW2⟩ : ∃ W, Hid (W1 ++ bitsOf ((nL : Int) - 257) 5 ++ bitsOf ((nD : Int) - 1) 5 ++ bitsOf ((nS : Int) - 4) 4 = W) := ⟨_, Lib.hid rfl⟩
          have hW2l : W2.length = bs.length + 17 := by rw [← hW2.out]; simp only [List.length_append, bitsOf_length]; omega
          have hW2b : Hid (W1 ++ sizesB nL nD nS = W2) := Lib.hid (by rw [← hW2.out]; unfold sizesB; simp only [List.append_assoc])
          rw [hW2.out] at k4
          have hw1 : IntKind.i64.wrap ((nL : Int) - 256) = (nL : Int) - 256 := IntWalk.i64_in _ ⟨by omega, by omega⟩
          have hw2 : IntKind.i64.wrap ((nL : Int) - 256 - 1) = (nL : Int) - 257 := by rw [e1]; exact IntWalk.i64_in _ ⟨by omega, by omega⟩
          have hw3 : IntKind.i64.wrap ((nD : Int) - 1) = (nD : Int) - 1 := IntWalk.i64_in _ ⟨by omega, by omega⟩
          have hw4 : IntKind.i64.wrap ((nS : Int) - 4) = (nS : Int) - 4 := IntWalk.i64_in _ ⟨by omega, by omega⟩
          have K1 := Lib.hid k1
          have K2 := Lib.hid k2
          have K3 := Lib.hid k3
          have K4 := Lib.hid k4
          clear k1 k2 k3 k4 e1
          refine (K1.out _ H).mono ?_
          rintro e w15 ⟨_, rfl, H15⟩
          clear H
          go_wp2_with fail
          refine (K2.out _ H15).mono ?_
          rintro e w16 ⟨_, rfl, H⟩
          clear H15
          go_wp2_with fail
          refine (K3.out _ H).mono ?_
          rintro e w17 ⟨_, rfl, H17⟩
          clear H
          go_wp2_with fail
          refine (K4.out _ H17).mono ?_
          rintro e w18 ⟨_, rfl, H⟩
          clear H17 K1 K2 K3 K4 hw1 hw2 hw3 hw4
          go_wp2_with fail
          go_loopw [105] (fun s105 wx => ∃ j : Nat, s105 = .int .i64 j ∧ j ≤ nS ∧ Own w0 wx (Wtr g (W2 ++ lensB (SO.take j)) :: slc 3 1 (.slice (some ⟨g6, 0, none⟩) nS c9) nS (nums SO) :: slc 3 1 (.slice (some ⟨g5, 0, none⟩) 19 c5) 19 (nums RL) :: slc 102 3 (.slice a8 k c8) k (rows rcell RS) :: slc 3 1 (.slice (some ⟨g3, 0, none⟩) nL c3) nL (nums L) :: slc 3 1 (.slice (some ⟨g4, 0, none⟩) nD c4) nD (nums D) :: ps)) (fun s105 _ => nS - (intOf s105).toNat)
          case atStart => exact ⟨0, by go_num, by omega, by simpa [lensB] using H⟩
          case round =>
            clear H
            obtain ⟨j, rfl, hj, H⟩ := hrel
            have hll : (lensB (SO.take j)).length ≤ 3 * 19 := by
              have h1 := flat_le (f := fun n => bitsOf n 3) (b := 3) (SO.take j) (fun x _ => by rw [bitsOf_length]; exact Nat.le_refl _)
              rw [List.length_take] at h1
              unfold lensB
              omega
            by_cases hjl : j < nS
            · have hjI : (j : Int) < (nS : Int) := by omega
              have hjS : j < SO.length := by rw [hnS.out]; exact hjl
              have cs := (H.front 1 rfl).getc (nums_get (getD_get hjS))
              have hx7 := M7.out _ (mem_getD2 hjS)
              have hsn : Hid (W2 ++ lensB (SO.take (j + 1)) = W2 ++ lensB (SO.take j) ++ bitsOf (SO.getD j 0) 3) := Lib.hid (by rw [lensB_succ hjS, List.append_assoc])
              obtain ⟨xv, hxv⟩ : ∃ xv, SO.getD j 0 = xv := ⟨_, rfl⟩
              rw [hxv] at cs hx7 hsn
              have k1 := fun w1 h => put_any (w := w1) (w0 := w0) (ps := slc 3 1 (.slice (some ⟨g6, 0, none⟩) nS c9) nS (nums SO) :: slc 3 1 (.slice (some ⟨g5, 0, none⟩) 19 c5) 19 (nums RL) :: slc 102 3 (.slice a8 k c8) k (rows rcell RS) :: slc 3 1 (.slice (some ⟨g3, 0, none⟩) nL c3) nL (nums L) :: slc 3 1 (.slice (some ⟨g4, 0, none⟩) nD c4) nD (nums D) :: ps) (g := g) (bs := W2 ++ lensB (SO.take j)) xv 3 (by omega) (by omega) h (by rw [List.length_append]; omega)
              rw [show cut 3 = 3 from rfl, ← hsn.out] at k1
              have K1 := Lib.hid k1
              clear k1 hxv hll
              go_wp2_with fail
              refine (K1.out _ H).mono ?_
              rintro e w19 ⟨_, rfl, H19⟩
              clear H cs
              go_wp2_with fail
              go_roundw
              case rel => exact ⟨j + 1, by go_num, by omega, H19⟩
              case measure => simp [intOf]; omega
            · obtain rfl : j = nS := by omega
              have hjI : ¬ (j : Int) < (j : Int) := by omega
              rw [List.take_of_length_le (by rw [hnS.out]; exact Nat.le_refl _)] at H hll
              obtain ⟨W3, hW3⟩ : ∃ W, Hid (W2 ++ lensB SO = W) := ⟨_, Lib.hid rfl⟩
              have hW3l : W3.length ≤ bs.length + 74 := by rw [← hW3.out, List.length_append]; omega
              rw [hW3.out] at H
              have km := fun w1 h => made_any (w := w1) (v := .slice (some ⟨g5, 0, none⟩) 19 c5) (n := 19) (L := RL) h (by omega) MR.out.cerr
              rw [HRLL.out] at km
              have KM := Lib.hid km
              clear km hll
              go_wp2_with fail
              refine (KM.out _ (H.front 2 rfl).rd).mono ?_
              rintro e w20 ⟨_, rfl, u11, rfl, J⟩
              replace H := H.join J
              clear J KM
              obtain ⟨a11, c11, rfl, -⟩ := H.rd.shape
              go_upto_region 29 with (refine wpList_store_agg (vs := [.slice (some ⟨g5, 0, none⟩) 19 c5, .slice a11 19 c11]) rfl _ _ rfl rfl (H.alloc _) rfl (by kernel_rfl) (by simp) (by simp; exact ⟨rfl, rfl⟩) rfl ?_; intro w21 H21)
              clear H
              generalize w20.heap.size = gc at *
              have H : Own w0 w21 (Wtr g W3 :: blk gc (.cells #[.slice (some ⟨g5, 0, none⟩) 19 c5, .slice a11 19 c11] 69) :: slc 3 1 (.slice a11 19 c11) 19 (nums (codesF RL)) :: slc 3 1 (.slice (some ⟨g6, 0, none⟩) j c9) j (nums SO) :: slc 3 1 (.slice (some ⟨g5, 0, none⟩) 19 c5) 19 (nums RL) :: slc 102 3 (.slice a8 k c8) k (rows rcell RS) :: slc 3 1 (.slice (some ⟨g3, 0, none⟩) nL c3) nL (nums L) :: slc 3 1 (.slice (some ⟨g4, 0, none⟩) nD c4) nD (nums D) :: ps) := H21.front 2 rfl
              clear H21
              have hco : CodOk w0 (blk gc (.cells #[.slice (some ⟨g5, 0, none⟩) 19 c5, .slice a11 19 c11] 69) :: slc 3 1 (.slice a11 19 c11) 19 (nums (codesF RL)) :: slc 3 1 (.slice (some ⟨g6, 0, none⟩) j c9) j (nums SO) :: slc 3 1 (.slice (some ⟨g5, 0, none⟩) 19 c5) 19 (nums RL) :: slc 102 3 (.slice a8 k c8) k (rows rcell RS) :: slc 3 1 (.slice (some ⟨g3, 0, none⟩) nL c3) nL (nums L) :: slc 3 1 (.slice (some ⟨g4, 0, none⟩) nD c4) nD (nums D) :: ps) (.slice (some ⟨g5, 0, none⟩) 19 c5) (.slice a11 19 c11) RL := ⟨fun w' h => by rw [HRLL.out]; exact (h.front 3 rfl).rd, fun w' h => by rw [HRLL.out]; exact (h.front 1 rfl).rd, MR.out.all, MR.out.wt, by rw [HRLL.out]; omega⟩
              have HCO := Lib.hid hco
              have hbdR : ∀ m, (runsB RL (RS.take m)).length ≤ 22 * 632 := fun m => by
                have h1 := flat_le (f := runB RL) (b := 22) (RS.take m) (fun r hr => by
                  have h2 := cbits_le MR.out.all r.sym.toNat
                  have h3 := (OKR.out r (List.mem_of_mem_take hr)).n
                  unfold runB
                  rw [List.length_append, bitsOf_length]
                  omega)
                rw [List.length_take] at h1
                unfold runsB
                have := hnR.out
                omega
              have HBR := Lib.hid hbdR
              clear hco hbdR
              go_wp2_with fail
              go_loopw [117] (fun s117 wx => ∃ m : Nat, s117 = .int .i64 m ∧ m ≤ k ∧ Own w0 wx (Wtr g (W3 ++ runsB RL (RS.take m)) :: blk gc (.cells #[.slice (some ⟨g5, 0, none⟩) 19 c5, .slice a11 19 c11] 69) :: slc 3 1 (.slice a11 19 c11) 19 (nums (codesF RL)) :: slc 3 1 (.slice (some ⟨g6, 0, none⟩) j c9) j (nums SO) :: slc 3 1 (.slice (some ⟨g5, 0, none⟩) 19 c5) 19 (nums RL) :: slc 102 3 (.slice a8 k c8) k (rows rcell RS) :: slc 3 1 (.slice (some ⟨g3, 0, none⟩) nL c3) nL (nums L) :: slc 3 1 (.slice (some ⟨g4, 0, none⟩) nD c4) nD (nums D) :: ps)) (fun s117 _ => k - (intOf s117).toNat)
              case atStart => exact ⟨0, by go_num, by omega, by simpa [runsB] using H⟩
              case round =>
                clear H
                obtain ⟨m, rfl, hm, H⟩ := hrel
                have hbl := HBR.out m
                by_cases hmk : m < k
                · have hmI : (m : Int) < (k : Int) := by omega
                  obtain ⟨t, htk⟩ := get_of_lt (l := RS) (k := m) (by rw [hnR.out]; exact hmk)
                  have hok := OKR.out t (List.mem_of_getElem? htk)
                  have hps := runL_pos OKR.out (by rw [hnR.out]; omega) (List.mem_of_getElem? htk)
                  rw [hRL.out] at hps
                  obtain ⟨b, o, _, he2, -⟩ := (H.front 5 rfl).rd.some (by rw [rows_length rcell rcell_length, hnR.out]; omega)
                  cases he2
                  obtain ⟨c0, cc1, cc2⟩ := run_cells (H.front 5 rfl).rd htk
                  have hsn := runB_succ (ls := RL) htk
                  unfold runB at hsn
                  obtain ⟨hsy, hrn1, hrv⟩ := hok
                  obtain ⟨x, y, z⟩ := t
                  simp only at c0 cc1 cc2 hsy hrn1 hrv hps hsn
                  obtain ⟨x, rfl⟩ : ∃ s : Nat, x = s := ⟨x.toNat, by omega⟩
                  obtain ⟨y, rfl⟩ : ∃ s : Nat, y = s := ⟨y.toNat, by omega⟩
                  simp only [Int.toNat_natCast] at hps hsn hrv
                  have hxl := pos_lt hps
                  have hz128 : z < 128 := by
                    have : (2 : Int) ^ y ≤ 2 ^ 7 := pow2_le (by omega)
                    omega
                  have hsn2 : Hid (W3 ++ runsB RL (RS.take (m + 1)) = W3 ++ runsB RL (RS.take m) ++ cbits RL x ++ bitsOf z y) := Lib.hid (by rw [hsn]; simp only [List.append_assoc])
                  obtain ⟨WB, hWB⟩ : ∃ W, Hid (W3 ++ runsB RL (RS.take m) = W) := ⟨_, Lib.hid rfl⟩
                  have hWBl : WB.length ≤ bs.length + 14000 := by rw [← hWB.out, List.length_append]; omega
                  rw [hWB.out] at H hsn2
                  have hcx := cbits_le MR.out.all x
                  have k1 := fun (tb : Nat) w1 h => cput_any (w := w1) (HCO.out.mono (qs := blk tb (.cells #[.int .i64 (x : Int), .int .i64 (y : Int), .int .i64 z] 102) :: blk gc (.cells #[.slice (some ⟨g5, 0, none⟩) 19 c5, .slice a11 19 c11] 69) :: slc 3 1 (.slice a11 19 c11) 19 (nums (codesF RL)) :: slc 3 1 (.slice (some ⟨g6, 0, none⟩) j c9) j (nums SO) :: slc 3 1 (.slice (some ⟨g5, 0, none⟩) 19 c5) 19 (nums RL) :: slc 102 3 (.slice (some ⟨b, o, none⟩) k c8) k (rows rcell RS) :: slc 3 1 (.slice (some ⟨g3, 0, none⟩) nL c3) nL (nums L) :: slc 3 1 (.slice (some ⟨g4, 0, none⟩) nD c4) nD (nums D) :: ps) fun w' h => h.drop) hxl h (bs := WB) (g := g) (by omega)
                  have k2 := fun (tb : Nat) w1 h => put_any (w := w1) (w0 := w0) (ps := blk tb (.cells #[.int .i64 (x : Int), .int .i64 (y : Int), .int .i64 z] 102) :: blk gc (.cells #[.slice (some ⟨g5, 0, none⟩) 19 c5, .slice a11 19 c11] 69) :: slc 3 1 (.slice a11 19 c11) 19 (nums (codesF RL)) :: slc 3 1 (.slice (some ⟨g6, 0, none⟩) j c9) j (nums SO) :: slc 3 1 (.slice (some ⟨g5, 0, none⟩) 19 c5) 19 (nums RL) :: slc 102 3 (.slice (some ⟨b, o, none⟩) k c8) k (rows rcell RS) :: slc 3 1 (.slice (some ⟨g3, 0, none⟩) nL c3) nL (nums L) :: slc 3 1 (.slice (some ⟨g4, 0, none⟩) nD c4) nD (nums D) :: ps) (g := g) (bs := WB ++ cbits RL x) z (y : Int) (by omega) (by omega) h (by rw [List.length_append]; omega)
                  rw [cut_eq (by omega) (by omega), Int.toNat_natCast, ← hsn2.out] at k2
                  have K1 := Lib.hid k1
                  have K2 := Lib.hid k2
                  clear k1 k2 hsn hrv hps hbl htk hcx hxl
                  go_upto_region 32 with (refine wpList_store_agg (vs := [.int .i64 x, .int .i64 y, .int .i64 z]) rfl _ _ rfl rfl (H.alloc _) rfl (by kernel_rfl) (by simp) (by simp; exact ⟨rfl, rfl, rfl⟩) rfl ?_; clear c0 cc1 cc2; intro w22 H22)
                  clear H
                  generalize wr.heap.size = tb at *
                  have H : Own w0 w22 (Wtr g WB :: blk tb (.cells #[.int .i64 (x : Int), .int .i64 (y : Int), .int .i64 z] 102) :: blk gc (.cells #[.slice (some ⟨g5, 0, none⟩) 19 c5, .slice a11 19 c11] 69) :: slc 3 1 (.slice a11 19 c11) 19 (nums (codesF RL)) :: slc 3 1 (.slice (some ⟨g6, 0, none⟩) j c9) j (nums SO) :: slc 3 1 (.slice (some ⟨g5, 0, none⟩) 19 c5) 19 (nums RL) :: slc 102 3 (.slice (some ⟨b, o, none⟩) k c8) k (rows rcell RS) :: slc 3 1 (.slice (some ⟨g3, 0, none⟩) nL c3) nL (nums L) :: slc 3 1 (.slice (some ⟨g4, 0, none⟩) nD c4) nD (nums D) :: ps) := H22.swap
                  clear H22
                  have c0 := (H.front 1 rfl).cells
                  have cg := (H.front 2 rfl).cells
                  go_wp2_with fail
                  refine (K1.out _ _ H).mono ?_
                  rintro e w23 ⟨_, rfl, H23⟩
                  clear H c0 cg
                  have c0 := (H23.front 1 rfl).cells
                  go_wp2_with fail
                  refine (K2.out _ _ H23).mono ?_
                  rintro e w24 ⟨_, rfl, H24⟩
                  clear H23 c0
                  have H := (H24.front 1 rfl).drop
                  clear H24
                  go_wp2_with fail
                  go_roundw
                  case rel => exact ⟨m + 1, by go_num, by omega, H⟩
                  case measure => simp [intOf]; omega
                · obtain rfl : m = k := by omega
                  have hmI : ¬ (m : Int) < (m : Int) := by omega
                  rw [List.take_of_length_le (by rw [hnR.out]; exact Nat.le_refl _)] at H hbl
                  obtain ⟨W4, hW4⟩ : ∃ W, Hid (W3 ++ runsB RL RS = W) := ⟨_, Lib.hid rfl⟩
                  have hW4l : W4.length ≤ bs.length + 14000 := by rw [← hW4.out, List.length_append]; omega
                  rw [hW4.out] at H
                  have kL := fun w1 h => made_any (w := w1) (v := .slice (some ⟨g3, 0, none⟩) nL c3) (n := nL) (L := L) h (by omega) ML.out.cerr
                  have kD := fun w1 h => made_any (w := w1) (v := .slice (some ⟨g4, 0, none⟩) nD c4) (n := nD) (L := D) h (by omega) MD.out.cerr
                  rw [hnL.out] at kL
                  rw [hnD.out] at kD
                  have KL := Lib.hid kL
                  have KD := Lib.hid kD
                  clear kL kD hbl
                  go_wp2_with fail
                  refine (KL.out _ (H.front 6 rfl).rd).mono ?_
                  rintro e w25 ⟨_, rfl, u12, rfl, J⟩
                  replace H := H.join J
                  clear J KL
                  obtain ⟨a12, c12, rfl, -⟩ := H.rd.shape
                  go_wp2_with fail
                  refine (KD.out _ (H.front 8 rfl).rd).mono ?_
                  rintro e w26 ⟨_, rfl, u13, rfl, J⟩
                  replace H := H.join J
                  clear J KD
                  obtain ⟨a13, c13, rfl, -⟩ := H.rd.shape
                  have H : Own w0 w26 (Wtr g W4 :: slc 3 1 (.slice a13 nD c13) nD (nums (codesF D)) :: slc 3 1 (.slice a12 nL c12) nL (nums (codesF L)) :: slc 3 1 (.slice (some ⟨g3, 0, none⟩) nL c3) nL (nums L) :: slc 3 1 (.slice (some ⟨g4, 0, none⟩) nD c4) nD (nums D) :: ps) := (((((((H.front 2 rfl).front 7 rfl).front 7 rfl).front 7 rfl).front 7 rfl).front 7 rfl).drop.drop.drop.drop.drop)
                  have cokL : CodOk w0 (slc 3 1 (.slice a13 nD c13) nD (nums (codesF D)) :: slc 3 1 (.slice a12 nL c12) nL (nums (codesF L)) :: slc 3 1 (.slice (some ⟨g3, 0, none⟩) nL c3) nL (nums L) :: slc 3 1 (.slice (some ⟨g4, 0, none⟩) nD c4) nD (nums D) :: ps) (.slice (some ⟨g3, 0, none⟩) nL c3) (.slice a12 nL c12) L := ⟨fun w' h => by rw [hnL.out]; exact (h.front 2 rfl).rd, fun w' h => by rw [hnL.out]; exact (h.front 1 rfl).rd, ML.out.all, ML.out.wt, by rw [hnL.out]; omega⟩
                  have cokD : CodOk w0 (slc 3 1 (.slice a13 nD c13) nD (nums (codesF D)) :: slc 3 1 (.slice a12 nL c12) nL (nums (codesF L)) :: slc 3 1 (.slice (some ⟨g3, 0, none⟩) nL c3) nL (nums L) :: slc 3 1 (.slice (some ⟨g4, 0, none⟩) nD c4) nD (nums D) :: ps) (.slice (some ⟨g4, 0, none⟩) nD c4) (.slice a13 nD c13) D := ⟨fun w' h => by rw [hnD.out]; exact (h.front 3 rfl).rd, fun w' h => by rw [hnD.out]; exact h.rd, MD.out.all, MD.out.wt, by rw [hnD.out]; omega⟩
                  have kb := body_any cokL cokD (l := l) (tv := .slice ta N tc) (by rw [hN.out]; exact HT.out.mono fun w' h => h.drop.drop.drop.drop) OKS.out (by rw [hnL.out]; omega) H (by rw [hN.out]; omega)
                  have KB := Lib.hid kb
                  have hfin : Hid (bs ++ headB last 2 ++ (sizesB L.length D.length SO.length ++ (lensB SO ++ (runsB RL RS ++ bodyB L D l))) = W4 ++ bodyB L D l) := Lib.hid (by
                    rw [hnL.out, hnD.out, hnS.out, ← hW4.out, ← hW3.out, ← hW2b.out, ← hW1.out]
                    simp only [List.append_assoc])
                  clear kb cokL cokD
                  go_wp2_with fail
                  refine KB.out.mono ?_
                  rintro e w27 ⟨_, rfl, H27⟩
                  go_wp2_with fail
                  go_end0
                  rw [hfin.out]
                  exact ⟨_, rfl, (((((H27.front 4 rfl).front 4 rfl).front 4 rfl).front 4 rfl).drop.drop.drop.drop)⟩
end Go.Proofs.Ytljejkdkjnbmhaa
/- Bits: Writer.Align. -/
namespace Go.Proofs.Ytljejkdkjnbmhaa
open Go.RowKit

set_option maxHeartbeats 400000 in
theorem align_gen {w0 w : World} {ps : List Piece} {g : Nat} {a : Option Addr} {N cp m : Nat} {xs : List Value} (H : Own w0 w (blk g (.cells #[.slice a N cp, .int .i64 m] 50) :: ps)) (hN1 : N ≤ 35184372088832) (hc1 : N ≤ cp) (hc2 : cp ≤ 9223372036854775807) :
    Calls Try.prog 33 #[.pointer (some ⟨g, 0, none⟩)] w (Ret fun _ w' => Own w0 w' (blk g (.cells #[.slice a N cp, .int .i64 (8 * N : Nat)] 50) :: ps)) := by
  have c0 := H.cells
  go_enter Try.func33, Try.ntmps33
  go_wp2_with (refine wpList_store_int rfl _ _ rfl rfl H rfl (by kernel_rfl) (by simp) ?_; clear H c0; intro w3 H)
  go_end0
  refine ⟨_, rfl, ?_⟩
  simpa using H
theorem align_any {w0 w : World} {ps : List Piece} {g : Nat} {bs : List Bool} (H : Own w0 w (Wtr g bs :: ps)) (hl : bs.length ≤ 35184372088832) :
    Calls Try.prog 33 #[.pointer (some ⟨g, 0, none⟩)] w (Ret fun _ w' => Own w0 w' (Wtr g (aligned bs) :: ps)) := by
  obtain ⟨a, cp, hc1, hc2, H⟩ := H.wtr
  refine (align_gen (xs := []) H (by unfold nbytes; omega) hc1 hc2).mono ?_
  rintro e w3 ⟨v, rfl, H⟩
  refine ⟨_, rfl, H.unwtr ?_ ?_ ?_⟩
  · rw [aligned_length]
  · rw [aligned_length]; unfold nbytes; omega
  · rw [bytesOf_aligned]
end Go.Proofs.Ytljejkdkjnbmhaa
/- Bits: Writer.Text. -/
namespace Go.Proofs.Ytljejkdkjnbmhaa
open Go.RowKit

set_option maxHeartbeats 400000 in
theorem text_any {w0 w : World} {ps : List Piece} {g : Nat} {bs : List Bool} (s : ByteArray) (H : Own w0 w (Wtr g bs :: ps)) (hl : bs.length + s.size ≤ 35184372088000) :
    Calls Try.prog 35 #[.pointer (some ⟨g, 0, none⟩), .string s] w (Ret fun _ w' => Own w0 w' (Wtr g (aligned bs ++ textBits s) :: ps)) := by
  go_enter Try.func35, Try.ntmps35
  go_wp2_with fail
  refine (align_any H (by omega)).mono ?_
  rintro e w1 ⟨_, rfl, H1⟩
  clear H
  obtain ⟨m, hm⟩ : ∃ m, Hid ((aligned bs).length = m) := ⟨_, rfl⟩
  obtain ⟨N, hN⟩ : ∃ N, Hid (nbytes m = N) := ⟨_, rfl⟩
  have hmN : m = 8 * N ∧ N ≤ nbytes bs.length := by have h1 := hm.out; have h2 := hN.out; rw [aligned_length] at h1; unfold nbytes at *; omega
  obtain ⟨hmN, hN2⟩ := hmN
  have hN3 : N + s.size ≤ 35184372088800 := by unfold nbytes at hN2; omega
  obtain ⟨a, cp, hc1, hc2, H⟩ := H1.wtr
  clear H1
  rw [hm.out] at H hc1
  rw [hN.out] at H hc1
  have c0 := H.cells
  go_wp2_with (first
    | (at_builtin; refine wpList_append_str rfl _ _ rfl Try.underlying37 Try.underlying9 u8Info rfl rfl H.swap rfl (by omega) ?_; clear H c0; intro v' w' H; replace H := H.swap; obtain ⟨a', c', rfl, h1', h2'⟩ := (H.front 1 rfl).rd.shape)
    | (refine wpList_store_slice rfl _ _ rfl rfl H rfl (by kernel_rfl) (by simp) ?_; clear H; intro w2 H))
  refine (align_gen (xs := []) (m := m) (by simpa using H) (by omega) h1' h2').mono ?_
  rintro e w3 ⟨_, rfl, H3⟩
  go_wp2
  go_end0
  have hlen : (aligned bs ++ textBits s).length = 8 * (N + s.size) := by rw [List.length_append, hm.out, textBits_length]; omega
  refine ⟨_, rfl, H3.unwtr ?_ ?_ ?_⟩
  · rw [hlen]
  · rw [hlen]; unfold nbytes; omega
  · rw [bytesOf_append _ _ (by rw [hm.out]; omega), textBits, bytesOf_nums _ (byteNums_bd s), byteCells_nums]
    simp [u8s]
end Go.Proofs.Ytljejkdkjnbmhaa
/- flate: the walk of Store. -/
namespace Go.Proofs.Ytljejkdkjnbmhaa
open Go.RowKit

theorem xor16 {n : Nat} (h : n ≤ 65535) : bits .xor .i64 (n : Int) 65535 = 65535 - (n : Int) := by
  have h1 : n ^^^ 65535 = 65535 - n := by
    have e1 : (BitVec.ofNat 16 n ^^^ BitVec.allOnes 16).toNat = 65535 - n := by
      rw [BitVec.xor_allOnes, BitVec.toNat_not, BitVec.toNat_ofNat, Nat.mod_eq_of_lt (by omega)]
    rw [BitVec.toNat_xor, BitVec.toNat_ofNat, Nat.mod_eq_of_lt (by omega)] at e1
    exact e1
  have key : IntKind.i64.wrap ((BitVec.ofInt 64 (n : Int) ^^^ BitVec.ofInt 64 ((65535 : Nat) : Int)).toNat : Int) = 65535 - (n : Int) := by
    rw [BitVec.ofInt_natCast, BitVec.ofInt_natCast, BitVec.toNat_xor, BitVec.toNat_ofNat, BitVec.toNat_ofNat, Nat.mod_eq_of_lt (by omega), Nat.mod_eq_of_lt (by omega), h1, IntKind.wrap_i64]
    omega
  exact key
theorem aligned_id {bs : List Bool} (h : bs.length % 8 = 0) : aligned bs = bs := by
  unfold aligned padN
  rw [h]
  simp
theorem aligned_mod (bs : List Bool) : (aligned bs).length % 8 = 0 := by rw [aligned_length]; omega
def strLen : Value → Nat | .string t => t.size | _ => 0
def boolNum : Value → Nat | .bool true => 1 | _ => 0
/-- A chunk of a text as it is. -/
def chunkB (last : Bool) (t : ByteArray) (bs : List Bool) : List Bool := aligned (bs ++ headB last 0) ++ (bitsOf (t.size : Int) 16 ++ (bitsOf (65535 - (t.size : Int)) 16 ++ textBits t))
theorem chunk_len (last : Bool) (t : ByteArray) (bs : List Bool) : (chunkB last t bs).length ≤ bs.length + 8 * t.size + 48 := by
  unfold chunkB
  rw [List.length_append, List.length_append, List.length_append, bitsOf_length, bitsOf_length, textBits_length, aligned_length, List.length_append]
  simp [headB, bitsOf_length, nbytes]
  omega
theorem storeB_more {f : Nat} {t : ByteArray} {bs : List Bool} (h : ¬ t.size ≤ 65535) : storeB (f + 1) t bs = storeB f (t.extract 65535 t.size) (chunkB false (t.extract 0 65535) bs) := by
  rw [storeB, if_neg h]
  unfold chunkB
  rw [show (t.extract 0 65535).size = 65535 by rw [ByteArray.size_extract]; omega]
  rfl
theorem storeB_last {f : Nat} {t : ByteArray} {bs : List Bool} (h : t.size ≤ 65535) : storeB (f + 1) t bs = chunkB true t bs := by
  rw [storeB, if_pos h]; rfl

theorem tl_empty (t : ByteArray) : t.toList.isEmpty = decide (t.size = 0) := by
  rw [str_data]
  cases h : t.data.toList with
  | nil =>
    have : t.data.size = 0 := by rw [← Array.length_toList, h]; rfl
    have : t.size = 0 := this
    rw [this]; rfl
  | cons a l =>
    have : t.data.size = l.length + 1 := by rw [← Array.length_toList, h]; rfl
    have : t.size = l.length + 1 := this
    rw [this]; rfl
set_option maxRecDepth 100000 in
set_option maxHeartbeats 3200000 in
theorem store_any {w : World} (s : ByteArray) (hs : s.size ≤ 1000000) :
    Calls Try.prog 18 #[.string s] w (Ret fun r w' => r = .string (textOf (storeF s)) ∧ Own w w' []) := by
  have H := (Own.start w).newWtr
  obtain ⟨R, hR⟩ : ∃ R, Hid (storeF s = R) := ⟨_, Lib.hid rfl⟩
  rw [hR.out]
  have hR2 : Hid (storeB (s.size + 1) s [] = R) := Lib.hid hR.out
  clear hR
  go_enter Try.func18, Try.ntmps18
  go_wp2_with fail
  generalize w.alloc _ = w1 at *
  generalize w.heap.size = g at *
  go_loopw [0, 4] (fun s0 s4 wx => ∃ (t : ByteArray) (b : Bool) (f : Nat) (B : List Bool), s0 = .string t ∧ s4 = .bool b ∧ t.size ≤ 1000000 ∧ t.size < f + 1 ∧ (Hid (B.length ≤ 10 * (1000000 - t.size) + 48) ∧ (b = true ∨ 0 < t.size) ∧ Hid (storeB (f + 1) t B = R) ∨ b = false ∧ t.size = 0 ∧ Hid (B = R)) ∧ Own w wx [Wtr g B]) (fun s0 s4 _ => 2 * strLen s0 + boolNum s4)
  case atStart => exact ⟨s, true, s.size, [], rfl, rfl, hs, by omega, .inl ⟨Lib.hid (by simp), .inl rfl, hR2⟩, H⟩
  case round =>
    clear H hR2
    obtain ⟨t, b, f, B, rfl, rfl, ht, hf, hc, H⟩ := hrel
    rcases hc with ⟨hBl, hc, hst⟩ | ⟨rfl, ht0, hBR⟩
    · have hte : b = true ∨ t.toList.isEmpty = false := by
        rcases hc with h1 | h1
        · exact .inl h1
        · right; rw [tl_empty, decide_eq_false_iff_not]; omega
      obtain ⟨N, hN⟩ : ∃ N, t.size = N := ⟨_, rfl⟩
      rw [hN] at hf ht hc hBl
      by_cases h16 : N ≤ 65535
      · have hfin := hst.out
        rw [storeB_last (by rw [hN]; exact h16)] at hfin
        have HFIN := Lib.hid hfin
        have hx1 := xor16 h16
        have hex0 : t.extract 0 N = t := by rw [← hN]; exact ByteArray.extract_zero_size
        have ht2s : Hid (ByteArray.empty.size = 0) := Lib.hid rfl
        have hms : Hid (0 < 2 * N + boolNum (.bool b)) := Lib.hid (by rcases hc with h1 | h1
                                                                      · subst h1; simp [boolNum]
                                                                      · omega)
        clear hc hst hfin
        rcases hte with rfl | hte
        case' inr => cases b
        all_goals
          go_upto_region 5 with (fail)
          go_cut [5, 11, 12, 13] (fun s5 _ _ _ wx => wx = wr ∧ s5 = .int .i64 N)
          case first =>
            go_wp2
            all_goals go_meet
            all_goals exact ⟨rfl, val_int (by omega)⟩
          case rest =>
          obtain ⟨rfl, rfl⟩ := hcut
          have k1 := fun w1 (h : Own w w1 [Wtr g B]) => head_any true 0 (by omega) h (by have := hBl.out; omega)
          have k2 := fun w1 (h : Own w w1 [Wtr g (B ++ headB true 0)]) => align_any h (by rw [List.length_append]; simp [headB, bitsOf_length]; have := hBl.out; omega)
          have hal : (aligned (B ++ headB true 0)).length ≤ 11000000 := by rw [aligned_length, List.length_append]; simp [headB, bitsOf_length, nbytes]; have := hBl.out; omega
          have ham := aligned_mod (B ++ headB true 0)
          obtain ⟨A, hA⟩ : ∃ A, Hid (aligned (B ++ headB true 0) = A) := ⟨_, Lib.hid rfl⟩
          rw [hA.out] at k2 hal ham
          have k3 := fun w1 (h : Own w w1 [Wtr g A]) => put_any ((N : Int)) 16 (by omega) (by omega) h (by omega)
          have k4 := fun w1 (h : Own w w1 [Wtr g (A ++ bitsOf ((N : Int)) 16)]) => put_any (65535 - ((N : Int))) 16 (by omega) (by omega) h (by rw [List.length_append, bitsOf_length]; omega)
          rw [show cut 16 = 16 from rfl] at k3 k4
          have hal2 : aligned (A ++ bitsOf ((N : Int)) 16 ++ bitsOf (65535 - ((N : Int))) 16) = A ++ bitsOf ((N : Int)) 16 ++ bitsOf (65535 - ((N : Int))) 16 := aligned_id (by rw [List.length_append, List.length_append, bitsOf_length, bitsOf_length]; omega)
          have k5 := fun w1 (h : Own w w1 [Wtr g (A ++ bitsOf ((N : Int)) 16 ++ bitsOf (65535 - ((N : Int))) 16)]) => text_any (t) h (by rw [List.length_append, List.length_append, bitsOf_length, bitsOf_length]; omega)
          rw [hal2] at k5
          have hch : Hid (A ++ bitsOf ((N : Int)) 16 ++ bitsOf (65535 - ((N : Int))) 16 ++ textBits (t) = chunkB true (t) B) := Lib.hid (by unfold chunkB; rw [hA.out, hN]; simp only [List.append_assoc])
          have K1 := Lib.hid k1
          have K2 := Lib.hid k2
          have K3 := Lib.hid k3
          have K4 := Lib.hid k4
          have K5 := Lib.hid k5
          have hcl := chunk_len true (t) B
          have HCL := Lib.hid hcl
          clear k1 k2 k3 k4 k5 hal ham hal2 hcl
          go_wp2_with fail
          refine (K1.out _ H).mono ?_
          rintro e w3 ⟨_, rfl, H3⟩
          clear H
          go_wp2_with fail
          refine (K2.out _ H3).mono ?_
          rintro e w4 ⟨_, rfl, H⟩
          clear H3
          go_wp2_with fail
          refine (K3.out _ H).mono ?_
          rintro e w5 ⟨_, rfl, H5⟩
          clear H
          go_wp2_with fail
          refine (K4.out _ H5).mono ?_
          rintro e w6 ⟨_, rfl, H⟩
          clear H5
          go_wp2_with fail
          refine (K5.out _ H).mono ?_
          rintro e w7 ⟨_, rfl, H7⟩
          clear H
          rw [hch.out] at H7
          go_wp2_with fail
          go_roundw
          case rel => exact ⟨ByteArray.empty, false, f, _, rfl, rfl, by rw [ht2s.out]; omega, by rw [ht2s.out]; omega, .inr ⟨rfl, ht2s.out, HFIN⟩, H7⟩
          case measure => simp only [strLen, ht2s.out, hN]; exact hms.out
      · have hfin := hst.out
        obtain ⟨f, rfl⟩ : ∃ f', f = f' + 1 := ⟨f - 1, by omega⟩
        obtain ⟨t3, ht3⟩ : ∃ t3, t.extract 0 65535 = t3 := ⟨_, rfl⟩
        obtain ⟨t2, ht2⟩ : ∃ t2, t.extract 65535 N = t2 := ⟨_, rfl⟩
        have ht2s : Hid (t2.size = N - 65535) := Lib.hid (by rw [← ht2, ByteArray.size_extract]; omega)
        have ht3s : t3.size = 65535 := by rw [← ht3, ByteArray.size_extract]; omega
        rw [storeB_more (by rw [hN]; exact h16), hN, ht2, ht3] at hfin
        have HFIN := Lib.hid hfin
        clear hc hst hfin
        have hNI : ((65535 : Int) == (N : Int)) = false := by simp; omega
        have hcI : (65535 : Int) ≤ (N : Int) := by omega
        rcases hte with rfl | hte
        case' inr => cases b
        all_goals
          go_upto_region 5 with (fail)
          go_cut [5, 11, 12, 13] (fun s5 _ _ _ wx => wx = wr ∧ s5 = .int .i64 65535)
          case first =>
            go_wp2
            all_goals go_meet
            all_goals exact ⟨rfl, val_int (by omega)⟩
          case rest =>
          obtain ⟨rfl, rfl⟩ := hcut
          have k1 := fun w1 (h : Own w w1 [Wtr g B]) => head_any false 0 (by omega) h (by have := hBl.out; omega)
          have k2 := fun w1 (h : Own w w1 [Wtr g (B ++ headB false 0)]) => align_any h (by rw [List.length_append]; simp [headB, bitsOf_length]; have := hBl.out; omega)
          have hal : (aligned (B ++ headB false 0)).length ≤ 11000000 := by rw [aligned_length, List.length_append]; simp [headB, bitsOf_length, nbytes]; have := hBl.out; omega
          have ham := aligned_mod (B ++ headB false 0)
          obtain ⟨A, hA⟩ : ∃ A, Hid (aligned (B ++ headB false 0) = A) := ⟨_, Lib.hid rfl⟩
          rw [hA.out] at k2 hal ham
          have k3 := fun w1 (h : Own w w1 [Wtr g A]) => put_any (65535) 16 (by omega) (by omega) h (by omega)
          have k4 := fun w1 (h : Own w w1 [Wtr g (A ++ bitsOf (65535) 16)]) => put_any (65535 - (65535)) 16 (by omega) (by omega) h (by rw [List.length_append, bitsOf_length]; omega)
          rw [show cut 16 = 16 from rfl] at k3 k4
          have hal2 : aligned (A ++ bitsOf (65535) 16 ++ bitsOf (65535 - (65535)) 16) = A ++ bitsOf (65535) 16 ++ bitsOf (65535 - (65535)) 16 := aligned_id (by rw [List.length_append, List.length_append, bitsOf_length, bitsOf_length]; omega)
          have k5 := fun w1 (h : Own w w1 [Wtr g (A ++ bitsOf (65535) 16 ++ bitsOf (65535 - (65535)) 16)]) => text_any (t3) h (by rw [List.length_append, List.length_append, bitsOf_length, bitsOf_length]; omega)
          rw [hal2] at k5
          have hch : Hid (A ++ bitsOf (65535) 16 ++ bitsOf (65535 - (65535)) 16 ++ textBits (t3) = chunkB false (t3) B) := Lib.hid (by unfold chunkB; rw [hA.out, ht3s]; simp only [List.append_assoc]; rfl)
          have K1 := Lib.hid k1
          have K2 := Lib.hid k2
          have K3 := Lib.hid k3
          have K4 := Lib.hid k4
          have K5 := Lib.hid k5
          have hcl := chunk_len false (t3) B
          rw [ht3s] at hcl
          have HCL := Lib.hid hcl
          clear k1 k2 k3 k4 k5 hal ham hal2 hcl
          go_wp2_with fail
          refine (K1.out _ H).mono ?_
          rintro e w3 ⟨_, rfl, H3⟩
          clear H
          go_wp2_with fail
          refine (K2.out _ H3).mono ?_
          rintro e w4 ⟨_, rfl, H⟩
          clear H3
          go_wp2_with fail
          refine (K3.out _ H).mono ?_
          rintro e w5 ⟨_, rfl, H5⟩
          clear H
          go_wp2_with fail
          refine (K4.out _ H5).mono ?_
          rintro e w6 ⟨_, rfl, H⟩
          clear H5
          go_wp2_with fail
          refine (K5.out _ H).mono ?_
          rintro e w7 ⟨_, rfl, H7⟩
          clear H
          rw [hch.out] at H7
          go_wp2_with fail
          go_roundw
          case rel => exact ⟨t2, false, f, _, rfl, rfl, by rw [ht2s.out]; omega, by rw [ht2s.out]; omega, .inl ⟨Lib.hid (by have := HCL.out; have := hBl.out; rw [ht2s.out]; omega), .inr (by rw [ht2s.out]; omega), HFIN⟩, H7⟩
          case measure => simp only [strLen, ht2s.out, hN]; simp [boolNum]; omega
    · have hte : t.toList.isEmpty = true := by rw [tl_empty, ht0]; rfl
      have HT0 := Lib.hid ht0
      clear ht0 hf
      go_wp2_with fail
      refine (bytes_any H).mono ?_
      rintro e w4 ⟨rfl, rfl⟩
      rw [hBR.out]
      go_wp2_with fail
      go_ret
      exact ⟨_, rfl, rfl, H.bare⟩
end Go.Proofs.Ytljejkdkjnbmhaa
/- flate: the walks of Block, Rich, Pack. -/
namespace Go.Proofs.Ytljejkdkjnbmhaa
open Go.RowKit

theorem blockB_ne {l : List Tok} {kind : Int} {last : Bool} (h : kind ≠ 1) : blockB l kind last = blockB l 2 last := by
  unfold blockB
  rw [if_neg h, if_neg (by omega)]
theorem block_any {w0 w : World} {ps : List Piece} {g : Nat} {bs : List Bool} {tv : Value} {l : List Tok} (kind : Int) (last : Bool) (ht : Reads w0 ps 3 tv l.length (rows tcell l)) (hs : ∀ t ∈ l, TokOk t) (hln : l.length ≤ 1000000) (H : Own w0 w (Wtr g bs :: ps)) (hl : bs.length + 48 * l.length ≤ 35184372000000) :
    Calls Try.prog 20 #[.pointer (some ⟨g, 0, none⟩), tv, .int .i64 kind, .bool last] w (Ret fun _ w' => Own w0 w' (Wtr g (bs ++ blockB l kind last) :: ps)) := by
  by_cases hk : kind = 1
  · subst hk
    exact block1_any last ht hs H (by omega)
  · have hkb : (kind == 1) = false := by simpa using hk
    rw [blockB_ne hk]
    obtain ⟨ta, tc, rfl, ht1, ht2⟩ := (ht w H.drop).shape
    have k1 := rich_any (g := g) (bs := bs) last ht hs hln H hl
    have K1 := Lib.hid k1
    clear k1 ht hs hk
    generalize l.length = N at *
    go_enter Try.func20, Try.ntmps20
    go_wp2_with fail
    refine K1.out.mono ?_
    rintro e w1 ⟨_, rfl, H2⟩
    go_wp2_with fail
    go_end0
    exact ⟨_, rfl, H2⟩
def richF (s : ByteArray) : ByteArray := textOf (blockB (parse s) 2 true)
set_option maxRecDepth 100000 in
theorem richT_any {w : World} (s : ByteArray) (hs : s.size ≤ 1000000) :
    Calls Try.prog 10 #[.string s] w (Ret fun r w' => r = .string (richF s) ∧ Own w w' []) := by
  have H := (Own.start w).newWtr
  obtain ⟨T, hT⟩ : ∃ T, Hid (parse s = T) := ⟨_, rfl⟩
  have hok := parse_ok s
  have hlen := parse_len s
  unfold richF
  rw [hT.out] at hok hlen ⊢
  have HOK := Lib.hid hok
  clear hok
  go_enter Try.func10, Try.ntmps10
  go_wp2_with fail
  generalize w.alloc _ = w1 at *
  generalize w.heap.size = g at *
  refine (lzparse_any H hs).mono ?_
  rintro e w2 ⟨v, rfl, H2⟩
  rw [hT.out] at H2
  clear H
  obtain ⟨a, c, rfl, -⟩ := H2.rd.shape
  have hb := block_any (l := T) 2 true (fun w' h => h.rd) HOK.out (by omega) H2.swap (by simp; omega)
  rw [List.nil_append] at hb
  have HB := Lib.hid hb
  clear hb
  obtain ⟨N, hN⟩ : ∃ N, Hid (T.length = N) := ⟨_, rfl⟩
  rw [hN.out] at HB ⊢
  go_wp2_with fail
  refine HB.out.mono ?_
  rintro e w3 ⟨_, rfl, H3⟩
  clear H2
  go_wp2_with fail
  refine (bytes_any H3).mono ?_
  rintro e w4 ⟨rfl, rfl⟩
  go_wp2_with fail
  go_ret
  exact ⟨_, rfl, rfl, H3.bare⟩
/-- The shorter of two texts. -/
def shorter (a b : ByteArray) : ByteArray := if b.size < a.size then b else a
def packF (s : ByteArray) : ByteArray := shorter (shorter (textOf (storeF s)) (simpleF s)) (richF s)
set_option maxRecDepth 100000 in
set_option maxHeartbeats 1600000 in
theorem pack_any {w : World} (s : ByteArray) (hs : s.size ≤ 1000000) :
    Calls Try.prog 9 #[.string s] w (Ret fun r w' => r = .string (packF s) ∧ Own w w' []) := by
  have H := Own.start w
  obtain ⟨A, hA⟩ : ∃ A, Hid (textOf (storeF s) = A) := ⟨_, Lib.hid rfl⟩
  obtain ⟨B, hB⟩ : ∃ B, Hid (simpleF s = B) := ⟨_, Lib.hid rfl⟩
  obtain ⟨C, hC⟩ : ∃ C, Hid (richF s = C) := ⟨_, Lib.hid rfl⟩
  obtain ⟨R, hR⟩ : ∃ R, Hid (shorter (shorter A B) C = R) := ⟨_, Lib.hid rfl⟩
  have hP : packF s = R := by unfold packF; rw [hA.out, hB.out, hC.out, hR.out]
  rw [hP]
  have k1 := fun w => store_any (w := w) s hs
  have k2 := fun w => simple_any (w := w) s hs
  have k3 := fun w => richT_any (w := w) s hs
  rw [hA.out] at k1
  rw [hB.out] at k2
  rw [hC.out] at k3
  have K1 := Lib.hid k1
  have K2 := Lib.hid k2
  have K3 := Lib.hid k3
  clear k1 k2 k3 hP hA hB hC
  go_enter Try.func9, Try.ntmps9
  go_wp2_with fail
  refine (K1.out _).mono ?_
  rintro e w1 ⟨_, rfl, rfl, J⟩
  replace H := H.join J
  clear J
  go_wp2_with fail
  refine (K2.out _).mono ?_
  rintro e w2 ⟨_, rfl, rfl, J⟩
  replace H := H.join J
  clear J
  go_wp2_with fail
  refine (K3.out _).mono ?_
  rintro e w3 ⟨_, rfl, rfl, J⟩
  replace H := H.join J
  clear J K1 K2 K3
  go_upto_region 3 with (fail)
  have h9 := H.alloc (.cells #[.string B, .string C] 9)
  have H : Own w (w3.alloc (.cells #[.string B, .string C] 9)) (blk w3.heap.size (.cells #[.string B, .string C] 9) :: []) := h9
  clear h9
  generalize w3.alloc _ = w4 at *
  generalize w3.heap.size = g at *
  go_loopw [3, 14] (fun s3 s14 wx => ∃ (k : Nat) (X : ByteArray), s14 = .int .i64 k ∧ s3 = .string X ∧ (k = 0 ∧ Hid (X = A) ∨ k = 1 ∧ Hid (X = shorter A B) ∨ k = 2 ∧ Hid (X = R)) ∧ Own w wx (blk g (.cells #[.string B, .string C] 9) :: [])) (fun _ s14 _ => 2 - (intOf s14).toNat)
  case atStart => exact ⟨0, A, by go_num, rfl, .inl ⟨rfl, Lib.hid rfl⟩, H⟩
  case round =>
    clear H
    obtain ⟨k, X, rfl, rfl, hc, H⟩ := hrel
    rcases hc with ⟨rfl, hX⟩ | ⟨rfl, hX⟩ | ⟨rfl, hX⟩
    · have c0 := H.cells
      have hs1 : Hid (shorter X B = shorter A B) := Lib.hid (by rw [hX.out])
      by_cases hlt : B.size < X.size
      · have hI : (B.size : Int) < (X.size : Int) := by omega
        have hn : Hid (B = shorter A B) := Lib.hid (by rw [← hs1.out]; unfold shorter; rw [if_pos hlt])
        go_wp2_with fail
        go_roundw
        case rel => exact ⟨1, B, by go_num, rfl, .inr (.inl ⟨rfl, hn⟩), H⟩
        case measure => simp [intOf]
      · have hI : ¬ (B.size : Int) < (X.size : Int) := by omega
        have hn : Hid (X = shorter A B) := Lib.hid (by rw [← hs1.out]; unfold shorter; rw [if_neg hlt])
        go_wp2_with fail
        go_roundw
        case rel => exact ⟨1, X, by go_num, rfl, .inr (.inl ⟨rfl, hn⟩), H⟩
        case measure => simp [intOf]
    · have c0 := H.cells
      have hs1 : Hid (shorter X C = R) := Lib.hid (by rw [hX.out, hR.out])
      by_cases hlt : C.size < X.size
      · have hI : (C.size : Int) < (X.size : Int) := by omega
        have hn : Hid (C = R) := Lib.hid (by rw [← hs1.out]; unfold shorter; rw [if_pos hlt])
        go_wp2_with fail
        go_roundw
        case rel => exact ⟨2, C, by go_num, rfl, .inr (.inr ⟨rfl, hn⟩), H⟩
        case measure => simp [intOf]
      · have hI : ¬ (C.size : Int) < (X.size : Int) := by omega
        have hn : Hid (X = R) := Lib.hid (by rw [← hs1.out]; unfold shorter; rw [if_neg hlt])
        go_wp2_with fail
        go_roundw
        case rel => exact ⟨2, X, by go_num, rfl, .inr (.inr ⟨rfl, hn⟩), H⟩
        case measure => simp [intOf]
    · rw [hX.out] at *
      clear hX
      go_wp2_with fail
      go_ret
      exact ⟨_, rfl, rfl, H.bare⟩
end Go.Proofs.Ytljejkdkjnbmhaa
/- inflate: what is packed in each way is unpacked; the examples; plainly. No program in sight. -/
namespace Go.Proofs.Ytljejkdkjnbmhaa

/-- Bits that are unpacked as these bytes. -/
def Unp (bits : List Bool) (most : Int) (res : List Int) : Prop := ∀ bs r, At bs 0 (bits ++ r) → Steps bs most Inf.init ⟨bits.length, res, none, true⟩
theorem unp_block (s : ByteArray) (kind : Int) (h : s.size ≤ 1000000) : Unp (blockB (parse s) kind true) s.size (bnum s s.size) := by
  intro bs r ha
  have hb := block_steps (most := s.size) (parse_ok s) (by have := parse_len s; omega) (by omega) (exp_parse h) (by simp) ha
  simpa [Inf.init] using hb.1
theorem bnum_nums (s : ByteArray) : bnum s s.size = byteNums s := by
  refine List.ext_getElem? fun i => ?_
  rcases Nat.lt_or_ge i s.size with h | h
  · rw [bnum_get h]
    unfold byteNums byt
    rw [List.getElem?_map, Array.getElem?_toList, Array.getElem?_eq_getElem (show i < s.data.size from h)]
    simp only [Array.getD, Option.map_some]
    rw [dif_pos (show i < s.data.size from h)]
    rfl
  · rw [List.getElem?_eq_none (by rw [bnum_length]; exact h), List.getElem?_eq_none (by rw [byteNums_length]; exact h)]
theorem unp_store (s : ByteArray) (h : s.size ≤ 65535) : Unp (storeF s) s.size (byteNums s) := by
  intro bs r ha
  have e : storeF s = storedB true s 0 := by
    unfold storeF
    rw [storeB, if_pos h]
    unfold storedB aligned
    simp [headB, bitsOf_length]
  rw [e] at ha ⊢
  have hb := (stored_steps (most := s.size) (out := []) h (by simp) ha).1
  simpa [Inf.init] using hb
theorem blockB_size {l : List Tok} (hl : ∀ t ∈ l, TokOk t) (hn : l.length ≤ 1000000) (kind : Int) (last : Bool) : (blockB l kind last).length ≤ 48 * l.length + 15000 := by
  by_cases hk : kind = 1
  · subst hk
    have := blockB_le hl last
    omega
  · unfold blockB
    rw [if_neg hk]
    unfold richB sizesB
    have h1 := bodyB_le (richL_made hl hn).all (richD_made hl hn).all hl
    have hok := richR_ok hl hn
    have hrl := richR_len hl hn
    have m7 := runL_made hok (by omega)
    have h2 := flat_le (f := runB (runL (richR l))) (b := 22) (richR l) (fun r hr => by
      have h3 := cbits_le m7.all r.sym.toNat
      have h4 := (hok r hr).n
      unfold runB
      rw [List.length_append, bitsOf_length]
      omega)
    have h5 : (sortedF (runL (richR l))).length ≤ 19 := by
      unfold sortedF
      rw [trimF_len]
      have := trimK_le' (ordF.map fun s => (runL (richR l)).getD s 0) 4 (ordF.map fun s => (runL (richR l)).getD s 0).length
      rw [List.length_map] at this ⊢
      have h6 : ordF.length = 19 := rfl
      omega
    have h7 := flat_le (f := fun n => bitsOf n 3) (b := 3) (sortedF (runL (richR l))) (fun r _ => by rw [bitsOf_length]; exact Nat.le_refl _)
    unfold lensB runsB
    simp only [headB, List.length_append, List.length_cons, bitsOf_length]
    omega
/-- A text that is packed in one of the four ways. -/
def Packed (s p : ByteArray) : Prop := ∃ bits, p = textOf bits ∧ Unp bits s.size (byteNums s) ∧ bits.length ≤ 48 * s.size + 20000
theorem packed_store {s : ByteArray} (h : s.size ≤ 65535) : Packed s (textOf (storeF s)) := ⟨_, rfl, unp_store s h, by
  unfold storeF
  rw [storeB, if_pos h]
  simp only [List.length_append, bitsOf_length, textBits_length]
  unfold aligned
  simp [headB, bitsOf_length, padN]
  omega⟩
theorem packed_simple {s : ByteArray} (h : s.size ≤ 65535) : Packed s (simpleF s) := ⟨_, rfl, by rw [← bnum_nums]; exact unp_block s 1 (by omega), by have := blockB_size (parse_ok s) (by have := parse_len s; omega) 1 true; have := parse_len s; omega⟩
theorem packed_rich {s : ByteArray} (h : s.size ≤ 65535) : Packed s (richF s) := ⟨_, rfl, by rw [← bnum_nums]; exact unp_block s 2 (by omega), by have := blockB_size (parse_ok s) (by have := parse_len s; omega) 2 true; have := parse_len s; omega⟩
theorem packed_shorter {s a b : ByteArray} (ha : Packed s a) (hb : Packed s b) : Packed s (shorter a b) := by
  unfold shorter
  split
  · exact hb
  · exact ha
theorem packed_pack {s : ByteArray} (h : s.size ≤ 65535) : Packed s (packF s) := by
  unfold packF
  exact packed_shorter (packed_shorter (packed_store h) (packed_simple h)) (packed_rich h)
theorem strOf_nums (s : ByteArray) : strOfNums (byteNums s) = s := by rw [← bnum_nums, bnum_all]
theorem packed_size {s p : ByteArray} (hp : Packed s p) : p.size ≤ 6 * s.size + 3000 := by
  obtain ⟨bits, rfl, -, h⟩ := hp
  rw [textOf_size]
  unfold nbytes
  omega
/-! ### the examples -/
def finB : Fin' → List Int → Nat → Bool
  | .ok o n, o', n' => decide (o = o') && decide (n = n')
  | _, _, _ => false
def finE : Fin' → Int → Bool
  | .err e, e' => decide (e = e')
  | _, _ => false
end Go.Proofs.Ytljejkdkjnbmhaa
/- inflate: tokens in several blocks, plainly; slices of tokens. -/
namespace Go.Proofs.Ytljejkdkjnbmhaa
open Go.RowKit

/-- Bits that are unpacked as a beginning of the tokens' text, and do not end there. -/
def Pre (most : Int) (l : List Tok) (k : Nat) (bits : List Bool) : Prop :=
  ∃ res, exp most (l.take k) [] = .ok res ∧ (res.length : Int) ≤ most ∧ ∀ bs r, At bs 0 (bits ++ r) → Steps bs most Inf.init ⟨bits.length, res, none, false⟩ ∧ At bs bits.length r
/-- A slice of what is read. -/
theorem Rd.sliced {w : World} {size n k m c : Nat} {a : Option Addr} {xs : List Value} (h : Rd w size (.slice a n c) n xs) (hk : k ≤ m) (hm : m ≤ n) :
    Rd w size (sliced a k m c size) (m - k) ((xs.take (m * size)).drop (k * size)) := by
  have h1 := h.take hm
  cases a with
  | none =>
    obtain ⟨hl, a, c', e, h1, h2, h3, h4⟩ := h
    cases e
    obtain ⟨rfl, rfl⟩ := h3 rfl
    obtain rfl : m = 0 := by omega
    obtain rfl : k = 0 := by omega
    obtain rfl : xs = [] := List.eq_nil_of_length_eq_zero (by simpa using hl)
    simpa [_root_.Go.sliced] using Rd.nil w size
  | some ad =>
    have h2 := h1.tail hk
    unfold _root_.Go.sliced
    by_cases hc : c = k
    · obtain ⟨hl, a, c', e, h1, h2, h3, h4⟩ := h
      cases e
      obtain rfl : m = k := by omega
      rw [if_pos hc, Nat.sub_self, List.drop_eq_nil_of_le (by rw [List.length_take]; omega)]
      exact ⟨by simp, _, _, rfl, by omega, by omega, by simp, fun ad _ j u hu => by simp at hu⟩
    · rw [if_neg hc]
      exact h2
/-- What is packed, in however many bits. -/
def Packed2 (s p : ByteArray) : Prop := ∃ Bs, p = textOf Bs ∧ Unp Bs s.size (byteNums s)
end Go.Proofs.Ytljejkdkjnbmhaa
/- stream: the walk of Feed. -/
namespace Go.Proofs.Ytljejkdkjnbmhaa
open Go.RowKit

/-- How a Feed ends: it is done; the bits ran out; a fault. -/
def FeedEnd (bs : List Bool) (most : Int) (st : Inf) (e : Int) : Prop :=
  (st.done = true ∧ e = 0) ∨ (st.done = false ∧ e = 0 ∧ stepG bs most st = .ran) ∨ (st.done = false ∧ e ≠ 0 ∧ stepG bs most st = .bad e)
/-- While it goes on. -/
def FeedSt (bs : List Bool) (Z : Nat) (most : Int) (told : Nat) (st0 st : Inf) : Prop :=
  Steps bs most st0 st ∧ st.n ≤ 8 * Z ∧ (st.out.length : Int) ≤ most ∧ told ≤ st.out.length
def FeedPost (w0 : World) (ps : List Piece) (gr : Nat) (A : ByteArray) (most : Int) (told : Nat) (st0 : Inf) (r : Value) (w' : World) : Prop :=
  ∃ st e, r = .tuple #[.string (strOfNums (st.out.drop told)), .int .i64 e] ∧ FeedSt (textBits A) A.size most told st0 st ∧ FeedEnd (textBits A) most st e ∧ Own w0 w' (StP gr A most st.out.length st e :: ps)
theorem bits_from (A : ByteArray) (q : Nat) : textBits (A.extract q A.size) = (textBits A).drop (8 * q) := by
  have e1 : ∀ (l : List Int) (j : Nat), (bitsOfNums l).drop (8 * j) = bitsOfNums (l.drop j) := by
    intro l
    induction l with
    | nil => intro j; simp [bitsOfNums]
    | cons x t ih =>
      intro j
      cases j with
      | zero => simp
      | succ j =>
        rw [List.drop_succ_cons, ← ih, bitsOfNums, List.flatMap_cons, show 8 * (j + 1) = (bitsOf x 8).length + 8 * j by rw [bitsOf_length]; omega, ← List.drop_drop, List.drop_left]
        rfl
  unfold textBits
  rw [e1]
  congr 1
  unfold byteNums
  rw [ByteArray.data_extract, Array.toList_extract, List.extract_eq_take_drop, ← List.map_drop, List.take_of_length_le]
  rw [List.length_drop, Array.length_toList]
  exact Nat.le_refl _
theorem ext_app {A x : ByteArray} {q : Nat} (h : q ≤ A.size) : A.extract q A.size ++ x = (A ++ x).extract q (A ++ x).size := by
  rw [ByteArray.extract_append, ByteArray.size_append, Nat.sub_eq_zero_of_le h]
  have e1 : A.extract q A.size = A.extract q (A.size + x.size) := by
    apply ByteArray.ext
    rw [ByteArray.data_extract, ByteArray.data_extract]
    apply Array.toList_inj.1
    rw [Array.toList_extract, Array.toList_extract, List.extract_eq_take_drop, List.extract_eq_take_drop, List.take_of_length_le, List.take_of_length_le]
    · rw [List.length_drop, Array.length_toList]; show A.size - q ≤ _; omega
    · rw [List.length_drop, Array.length_toList]; exact Nat.le_refl _
  have e2 : x.extract 0 (A.size + x.size - A.size) = x := by
    rw [Nat.add_sub_cancel_left, ByteArray.extract_zero_size]
  first
    | rw [← e1, e2]
    | (rw [← e1]; simp)
theorem ext_ext {A : ByteArray} {q z : Nat} (h : q ≤ A.size) : (A.extract q A.size).extract z (A.extract q A.size).size = A.extract (q + z) A.size := by
  rw [ByteArray.extract_extract, ByteArray.size_extract, Nat.min_self]
  congr 1
  omega
theorem run_slice_from {P : Program} {ty : TypeId} (ht : P.underlying ty = some (.slice (P.elem ty))) {size : Nat} (hsz : ∀ w, (sizeOf (P.elem ty)).run P w = .ok size w) {ad : Option Addr} {n c k : Nat} (hk : k ≤ n) {tv : Value} (hv : sliced ad k n c size = tv) (w : World) :
    (Instr.sliceAt ty (.slice ad n c) (some (.int .i64 (k : Int))) none none).run P w = .ok tv w := by
  have hr := run_slice_l (P := P) (w := w) ty ad n c ht .i64 (k : Int) (by omega) (by omega)
  rw [hsz, Result.andThen_ok, Int.toNat_natCast, hv] at hr
  rw [run_sliceAt_slice w ty _ _ _ _ ht, hr]
def feedmeas (Z : Nat) (bit used : Value) : Nat := 8 * Z - (8 * (intOf used).toNat + (intOf bit).toNat)
theorem feedmeas_own {w0 w : World} {ps : List Piece} {gr told Z : Nat} {A : ByteArray} {most e : Int} {st : Inf} (H : Own w0 w (StP gr A most told st e :: ps)) : feedmeas Z ((w.cell? ⟨gr, 1, none⟩).getD undef) ((w.cell? ⟨gr, 2, none⟩).getD undef) = 8 * Z - st.n := by
  obtain ⟨lit, dist, H⟩ := H.stp
  obtain ⟨sa, sc, h1, h2, HR⟩ := H.str
  rw [HR.cells, HR.cells]
  unfold feedmeas
  show 8 * Z - (8 * ((st.n / 8 : Nat) : Int).toNat + ((st.n % 8 : Nat) : Int).toNat) = _
  rw [Int.toNat_natCast, Int.toNat_natCast, Nat.div_add_mod]
/-- A step is said of what stands behind whole bytes. -/
theorem step_shift {A : ByteArray} {most : Int} {st : Inf} (h : st.n ≤ 8 * A.size) : stepG (textBits A) most st = shG (st.n / 8) (shI (st.n / 8)) (stepG (textBits (A.extract (st.n / 8) A.size)) most ⟨st.n % 8, st.out, st.tab, st.last⟩) := by
  rw [bits_from, ← sh_step (by rw [textBits_length]; omega)]
  congr 1
  unfold shI
  simp only
  rw [Nat.add_comm, Nat.div_add_mod]
theorem feed_bad {A : ByteArray} {most : Int} {st : Inf} {e : Int} (h : st.n ≤ 8 * A.size) (hd : st.done = false) (he : e ≠ 0) (hg : GotS (stepG (textBits (A.extract (st.n / 8) A.size)) most ⟨st.n % 8, st.out, st.tab, st.last⟩) Inf.init 0 e) :
    (e = -1 → FeedEnd (textBits A) most st 0) ∧ (e ≠ -1 → 0 < e ∧ FeedEnd (textBits A) most st e) := by
  have hs := step_shift (most := most) h
  unfold GotS at hg
  cases hG : stepG (textBits (A.extract (st.n / 8) A.size)) most ⟨st.n % 8, st.out, st.tab, st.last⟩ with
  | ok v n => rw [hG] at hg; exact absurd hg.2.2 he
  | ran =>
    rw [hG] at hg hs
    exact ⟨fun _ => .inr (.inl ⟨hd, rfl, hs⟩), fun h => absurd hg h⟩
  | bad e0 =>
    rw [hG] at hg hs
    have hg : e = e0 := hg
    subst hg
    have := step_npos _ hG
    exact ⟨fun h => by omega, fun _ => ⟨this, .inr (.inr ⟨hd, he, hs⟩)⟩⟩
theorem feed_good {A : ByteArray} {most : Int} {told m : Nat} {st0 st st' : Inf} (h : FeedSt (textBits A) A.size most told st0 st) (hd : st.done = false) (ho : (st'.out.length : Int) ≤ most) (hg : stepG (textBits (A.extract (st.n / 8) A.size)) most ⟨st.n % 8, st.out, st.tab, st.last⟩ = .ok st' m) :
    FeedSt (textBits A) A.size most told st0 (shI (st.n / 8) st') ∧ st.n < (shI (st.n / 8) st').n ∧ m = st'.n := by
  obtain ⟨h1, h2, h3, h4⟩ := h
  have hs := step_shift (most := most) h2
  rw [hg] at hs
  have hs : stepG (textBits A) most st = .ok (shI (st.n / 8) st') (m + 8 * (st.n / 8)) := hs
  have hgo := step_goes (by rw [textBits_length]; exact h2) hs
  rw [textBits_length] at hgo
  have hp := (step_pre hs).length_le
  exact ⟨⟨h1.trans (.step hd hs (.refl _)), hgo.2, ho, by omega⟩, hgo.1, (step_n hg).symm⟩

section
variable {P : Program} {ops : Array Oper} {S : Sig → World → Prop} {nw tw : List Nat} {R : Act → Prop} {a : Act} {o : Oper} {rest : List Oper} {i : Nat}
/-- A store in a region that draws its order, of which S is told. -/
theorem dcalm_store {ty : TypeId} (x y : Operand) (hi : i ∉ nw) (hit : i ∈ tw) (hw : Region.wanted o (yielded ops a.tmps) = true) (ho : o.op = .store ty x y) {g off : Nat} (hx : a.eval x = .pointer (some ⟨g, off, none⟩)) {u : Value} (hv : a.eval y = u) (hu : u.cells = #[u])
    (hinfo : (P.info? ty).map (·.size) = some 1) (h1 : u.oneCell' = true)
    (hS : ∀ σ w, S σ w → σ i = none → (∀ k ∈ tw, Trd.Deps o k → (σ k).isSome = true) → ∃ w0 cur e ps, Own w0 w (blk g (.cells cur e) :: ps) ∧ off < cur.size ∧ ∀ w', Own w0 w' (blk g (.cells (cur.setIfInBounds off u) e) :: ps) → S (σ.upd i undef) w')
    (h : Trd.calm P ops S nw tw R (i + 1) rest (a.put o.dst undef)) : Trd.calm P ops S nw tw R i (o :: rest) a :=
  Trd.calm_step undef hi hw (fun σ w hs hf hd K Q hK => by
    obtain ⟨w0, cur, e, ps, H, hfit, hfin⟩ := hS σ w hs (hf hit) hd
    have hr := run_storeAt_row (P := P) (ty := ty) (off := off) (a.eval y) H.block.1 (by rw [hv, hu]; simpa using hinfo) (by rw [hv, hu]; simp; omega) (by rw [hv, hu]; simpa using h1)
    rw [hv, hu] at hr
    have h3 := H.setRow (cur' := cur.setIfInBounds off u)
    have e3 : (cur.toList.take off ++ #[u].toList ++ cur.toList.drop (off + #[u].size)).toArray = cur.setIfInBounds off u := by
      rw [show cur.setIfInBounds off u = (cur.toList.set off u).toArray by apply Array.toList_inj.1; simp, List.set_eq_take_append_cons_drop, if_pos (by simpa using hfit)]
      simp
    rw [e3] at hr
    unfold Oper.wp execOp
    simp only [ho, hx, hv, Sem.run_bind, Sem.run_pure, Result.andThen_ok, hr]
    exact hK _ (by rw [Trd.trk, if_pos hit]; exact hfin _ h3)) h
/-- A call that S does not hear of. -/
theorem dcalm_call {v : Value} {f : FuncId} {args : Array Value} (hi : i ∉ nw) (hit : i ∉ tw) (hw : Region.wanted o (yielded ops a.tmps) = true) (hr : ∀ w, (execOp a.eval o).run P w = .ok (.enter f args) w)
    (hc : ∀ σ w, S σ w → Calls P f args w fun e w' => e = .returned v ∧ S σ w') (h : Trd.calm P ops S nw tw R (i + 1) rest (a.put o.dst v)) : Trd.calm P ops S nw tw R i (o :: rest) a :=
  Trd.calm_step v hi hw (fun σ w hS hf hd K Q hK => by
    unfold Oper.wp
    rw [hr w]
    refine (hc σ w hS).mono ?_
    rintro e w' ⟨rfl, hS'⟩
    exact hK w' (by rw [Trd.trk, if_neg hit]; exact hS')) h
end
end Go.Proofs.Ytljejkdkjnbmhaa
/- stream: the walk of Feed: a round. -/
namespace Go.Proofs.Ytljejkdkjnbmhaa
open Go.RowKit

set_option maxRecDepth 100000 in
set_option maxHeartbeats 12800000 in
theorem feed_any {w0 w : World} {ps : List Piece} {gr told : Nat} {A x : ByteArray} {most : Int} {st : Inf} (hm : 0 ≤ most ∧ most ≤ 1000000) (hsz : A.size + x.size ≤ 1000000) (hn : st.n ≤ 8 * A.size) (ho : (st.out.length : Int) ≤ most) (ht : told ≤ st.out.length)
    (H : Own w0 w (StP gr A most told st 0 :: ps)) :
    Calls Try.prog 6 #[.pointer (some ⟨gr, 0, none⟩), .string x] w (Ret (FeedPost w0 ps gr (A ++ x) most told st)) := by
  obtain ⟨lit, dist, H⟩ := H.stp
  have hext := Lib.hid (ext_app (A := A) (x := x) (q := st.n / 8) (by omega))
  obtain ⟨A', hA'⟩ : ∃ A', Hid (A ++ x = A') := ⟨_, rfl⟩
  have hZ : Hid (A'.size = A.size + x.size) := Lib.hid (by rw [← hA'.out, ByteArray.size_append])
  rw [hA'.out] at hext ⊢
  obtain ⟨buf0, hbuf0⟩ : ∃ b, Hid (A.extract (st.n / 8) A.size = b) := ⟨_, rfl⟩
  rw [hbuf0.out] at H hext
  have hbs : ¬ 9223372036854775807 < buf0.size + x.size := by
    have h3 := hbuf0.out
    have h4 : buf0.size ≤ A.size := by rw [← h3, ByteArray.size_extract]; omega
    omega
  obtain ⟨sa, sc, h1, h2, HR⟩ := H.str
  have c0 := HR.cells
  have hst0 : Hid (FeedSt (textBits A') A'.size most told st st) := Lib.hid ⟨.refl _, by have := hZ.out; omega, ho, ht⟩
  obtain ⟨hm0, hm1⟩ := hm
  have hZb : A'.size ≤ 1000000 := by have := hZ.out; omega
  obtain ⟨N0, hN0⟩ : ∃ N, Hid (st.out.length = N) := ⟨_, rfl⟩
  rw [hN0.out] at HR h1
  rw [hN0.out] at c0
  obtain ⟨b0, hb0⟩ : ∃ b : Nat, Hid (st.n % 8 = b) := ⟨_, rfl⟩
  obtain ⟨q0, hq0⟩ : ∃ b : Nat, Hid (st.n / 8 = b) := ⟨_, rfl⟩
  obtain ⟨is0, his0⟩ : ∃ b, Hid (st.tab.isSome = b) := ⟨_, rfl⟩
  obtain ⟨dn0, hdn0⟩ : ∃ b, Hid (st.done = b) := ⟨_, rfl⟩
  obtain ⟨la0, hla0⟩ : ∃ b, Hid (st.last = b) := ⟨_, rfl⟩
  obtain ⟨ou0, hou0⟩ : ∃ b, Hid (st.out = b) := ⟨_, rfl⟩
  rw [hb0.out, hq0.out, his0.out, hdn0.out, hla0.out, hou0.out] at HR
  rw [hb0.out, hq0.out, his0.out, hdn0.out, hla0.out] at c0
  clear H ho ht hn hsz h1
  go_enter Try.func6, Try.ntmps6
  go_upto_block 0 with (refine wpList_store_string rfl _ _ rfl rfl HR rfl (by kernel_rfl) (by simp) ?_; clear HR c0; intro w1 HR)
  have H : Own w0 w1 (StP gr A' most told st 0 :: ps) := unstp (lit := lit) (dist := dist) (by
    rw [← hext.out, hb0.out, hq0.out, his0.out, hdn0.out, hla0.out, hou0.out]
    exact HR.unstr (by rw [← hou0.out]; exact hN0.out.symm))
  clear HR hext hbuf0 hN0 hb0 hq0 his0 hdn0 hla0 hou0 h2
  clear hbs
  obtain ⟨B, hB⟩ : ∃ B, Hid (textBits A' = B) := ⟨_, rfl⟩
  obtain ⟨Z, hZ2⟩ : ∃ Z, Hid (A'.size = Z) := ⟨_, rfl⟩
  rw [hB.out, hZ2.out] at hst0
  rw [hZ2.out] at hZb
  clear hZ
  simp only [Act.put]
  go_cut [6, 7] (fun _ _ wx => ∃ (st1 : Inf) (e1 : Int), Hid (FeedSt B Z most told st st1) ∧ Hid (FeedEnd B most st1 e1) ∧ Own w0 wx (StP gr A' most told st1 e1 :: ps))
  case first =>
    go_wp2_with fail
    go_loopw [6, 7] (fun _ _ wx => ∃ st1 : Inf, Hid (FeedSt B Z most told st st1) ∧ Own w0 wx (StP gr A' most told st1 0 :: ps)) (fun _ _ wx => feedmeas Z ((wx.cell? ⟨gr, 1, none⟩).getD undef) ((wx.cell? ⟨gr, 2, none⟩).getD undef))
    case atStart => exact ⟨st, hst0, H⟩
    case round =>
      clear H hst0
      obtain ⟨st1, hst, H⟩ := hrel
      have hmz := Lib.hid (feedmeas_own (Z := Z) H)
      obtain ⟨lit, dist, H⟩ := H.stp
      obtain ⟨dn, hdn⟩ : ∃ d, Hid (st1.done = d) := ⟨_, rfl⟩
      rw [hdn.out] at H
      have hnZ := hst.out.2.1
      have hoZ := hst.out.2.2.1
      have htZ := hst.out.2.2.2
      obtain ⟨buf, hbuf⟩ : ∃ b, Hid (A'.extract (st1.n / 8) A'.size = b) := ⟨_, rfl⟩
      have hbsz : Hid (buf.size = Z - st1.n / 8) := Lib.hid (by rw [← hbuf.out, ByteArray.size_extract, ← hZ2.out]; omega)
      rw [hbuf.out] at H
      cases dn
      case true =>
        have hend : Hid (FeedEnd B most st1 0) := Lib.hid (.inl ⟨hdn.out, rfl⟩)
        obtain ⟨sa, sc, h1, h2, HR⟩ := H.str
        have c0 := HR.cells
        clear HR
        go_wp2
        go_meet
        exact ⟨st1, 0, hst, hend, unstp (by rw [hbuf.out, hdn.out]; exact H)⟩
      have hsb : buf.size ≤ 1000000 := by have := hbsz.out; omega
      have hbit : st1.n % 8 ≤ 8 * buf.size := by have := hbsz.out; omega
      have hbit8 : st1.n % 8 ≤ 16 := by omega
      obtain ⟨bit, hbt⟩ : ∃ b, Hid (st1.n % 8 = b) := ⟨_, rfl⟩
      obtain ⟨used, hus⟩ : ∃ b, Hid (st1.n / 8 = b) := ⟨_, rfl⟩
      have husZ : used ≤ 1000000 := by have := hus.out; omega
      rw [hbt.out] at hbit hbit8
      rw [hbt.out, hus.out] at H
      obtain ⟨N, hN⟩ : ∃ N, Hid (st1.out.length = N) := ⟨_, rfl⟩
      have hok : Hid (tkOk buf 0 (bit : Int)) := Lib.hid (by unfold tkOk; omega)
      have hG : Hid ((∀ e : Int, e ≠ 0 → GotS (stepG (textBits buf) most ⟨bit, st1.out, st1.tab, st1.last⟩) Inf.init 0 e → (e = -1 → FeedEnd B most st1 0) ∧ (e ≠ -1 → 0 < e ∧ FeedEnd B most st1 e)) ∧
          (∀ (st' : Inf) (m : Nat), (st'.out.length : Int) ≤ most → stepG (textBits buf) most ⟨bit, st1.out, st1.tab, st1.last⟩ = .ok st' m → FeedSt B Z most told st (shI used st') ∧ st1.n < (shI used st').n ∧ m = st'.n)) := Lib.hid (by
        rw [← hB.out, ← hbuf.out, ← hbt.out, ← hus.out, ← hZ2.out]
        refine ⟨fun e he hg => feed_bad (by rw [hZ2.out]; exact hnZ) hdn.out he hg, fun st' m h9 hg => feed_good (m := m) ?_ hdn.out h9 hg⟩
        have := hst.out
        rw [← hB.out, ← hZ2.out] at this
        exact this)
      have hst1 := Lib.hid (rfl : (⟨bit, st1.out, st1.tab, st1.last⟩ : Inf) = ⟨bit, st1.out, st1.tab, st1.last⟩)
      obtain ⟨ins, hins⟩ : ∃ b, Hid (st1.tab.isSome = b) := ⟨_, rfl⟩
      rw [hins.out] at H
      have K1 : Hid (∀ (w' : World) (qs : List Piece), Own w0 w' qs → _) := Lib.hid fun (w' : World) (qs : List Piece) (h : Own w0 w' qs) => bnew_any buf h
      obtain ⟨sa, sc, h1, h2, HR⟩ := H.str
      have c0 := HR.cells
      go_wp2_with fail
      refine (K1.out _ _ H).mono ?_
      rintro e0 w2 ⟨_, rfl, rg, rfl, H1⟩
      clear K1 H HR c0
      go_upto_region 8 with (fail)
      have H2 := H1.alloc (.cells #[.pointer (some ⟨rg, 0, none⟩), .bool false, .int .i64 0] 45)
      generalize w2.alloc _ = w3 at *
      generalize w2.heap.size = g at *
      have H3 : Own w0 w3 (Prt g rg buf 0 0 :: StR gr ⟨buf, (bit : Int), (used : Int), st1.out, most, (told : Int), ins, st1.last, lit, dist, 0, false⟩ :: TabP lit dist st1.tab :: ps) := Own.unprt (e := 0) H2
      clear H1 H2
      have HT := Lib.hid (pttake_any bit hbit8 H3 hsb (by omega))
      rw [ptN_zero] at HT
      have e1 : tkN buf 0 (bit : Int) = bit := by unfold tkN; rw [if_pos hok.out]; simp
      have e2 : ptE buf 0 (bit : Int) 0 = 0 := by unfold ptE; rw [if_pos hok.out]
      rw [e1, e2] at HT
      clear e1 e2
      obtain ⟨sa, sc, h1', h2', HR⟩ := (H3.front 1 rfl).str
      have c0 := HR.cells
      clear HR
      go_wp2_with fail
      refine HT.out.mono ?_
      rintro e0 w4 ⟨_, rfl, -, H4⟩
      clear HT H3 c0
      replace H4 : Own w0 w4 (StR gr ⟨buf, (bit : Int), (used : Int), st1.out, most, (told : Int), ins, st1.last, lit, dist, 0, false⟩ :: TabP lit dist st1.tab :: Prt g rg buf bit 0 :: ps) := ((H4.front 2 rfl).front 2 rfl)
      obtain ⟨sa, sc, h1', h2', HR⟩ := H4.str
      have c0 := HR.cells
      clear HR
      go_upto_if 56 with (fail)
      go_cut [] (fun wx => StepPost w0 ps gr g rg buf (TabP lit dist st1.tab) ⟨buf, (bit : Int), (used : Int), st1.out, most, (told : Int), ins, st1.last, lit, dist, 0, false⟩ (stepG (textBits buf) most ⟨bit, st1.out, st1.tab, st1.last⟩) wx)
      case first =>
        clear hmz hG hst
        obtain ⟨tab, htab⟩ : ∃ t, Hid (st1.tab = t) := ⟨_, rfl⟩
        rw [htab.out] at H4
        cases tab with
        | none =>
          obtain rfl : ins = false := by rw [← hins.out, htab.out]; rfl
          have HH := Lib.hid (sthead_any ⟨hm0, hm1⟩ hoZ hsb hbit ((H4.front 1 rfl).drop))
          go_wp2_with fail
          refine HH.out.mono ?_
          rintro e0 w5 ⟨_, rfl, h5⟩
          go_wp2
          go_meet
          rw [htab.out]
          exact h5
        | some t =>
          obtain rfl : ins = true := by rw [← hins.out, htab.out]; rfl
          obtain ⟨L, D⟩ := t
          have HH := Lib.hid (sttoken_any ⟨hm0, hm1⟩ hoZ hsb hbit H4)
          go_wp2_with fail
          refine HH.out.mono ?_
          rintro e0 w5 ⟨_, rfl, h5⟩
          go_wp2
          go_meet
          rw [htab.out]
          exact h5
      case rest =>
      clear H4 c0 hok
      obtain ⟨n2, e2, hn2, hbad, hgood⟩ := hcut
      replace hbad := Lib.hid hbad
      replace hgood := Lib.hid hgood
      by_cases he2 : e2 = 0
      case neg =>
        obtain ⟨hg2, H5⟩ := hbad.out he2
        have hfe := Lib.hid (hG.out.1 e2 he2 hg2)
        clear hbad hgood hG
        have H6 : Own w0 wc (Prt g rg buf n2 e2 :: StR gr ⟨buf, (bit : Int), (used : Int), st1.out, most, (told : Int), ins, st1.last, lit, dist, 0, false⟩ :: TabP lit dist st1.tab :: ps) := H5.front 2 rfl
        have HP := H6.prt
        have c1 := HP.cells
        by_cases he3 : e2 = -1
        · subst he3
          rw [se_ran.1, se_ran.2] at c1
          have hend := Lib.hid (hfe.out.1 rfl)
          clear HP hfe
          go_wp2
          go_meet
          refine ⟨st1, 0, hst, hend, unstp (lit := lit) (dist := dist) ?_⟩
          rw [hbuf.out, hdn.out, hbt.out, hus.out, hins.out]
          exact H6.drop
        · rw [(se_bad he3).1, (se_bad he3).2] at c1
          obtain ⟨hpos, hend⟩ := hfe.out.2 he3
          replace hend := Lib.hid hend
          have hb2 : (e2 == 0) = false := by simp; omega
          obtain ⟨sa, sc, h1', h2', HR⟩ := H5.str
          clear HP hfe H5 H6
          go_wp2_with (refine wpList_store_int rfl _ _ rfl rfl HR rfl (by kernel_rfl) (by simp) ?_; clear HR c1; intro w6 HR; have c0 := HR.cells)
          go_meet
          refine ⟨st1, e2, hst, hend, unstp (lit := lit) (dist := dist) ?_⟩
          rw [hbuf.out, hdn.out, hbt.out, hus.out, hins.out]
          exact (((HR.unstr rfl).front 2 rfl).drop)
      subst he2
      obtain ⟨st', lit', dist', hgs, ho', H5⟩ := hgood.out rfl
      obtain ⟨hst2, hlt, rfl⟩ := hG.out.2 st' n2 ho' hgs
      replace hst2 := Lib.hid hst2
      replace hlt := Lib.hid hlt
      clear hbad hgood hG hgs ho' hst1 hins
      replace H5 : Own w0 wc (StR gr ⟨buf, (bit : Int), (used : Int), st'.out, most, (told : Int), st'.tab.isSome, st'.last, lit', dist', 0, false⟩ :: TabP lit' dist' st'.tab :: Prt g rg buf st'.n 0 :: ps) := H5
      obtain ⟨n2, hn2e⟩ : ∃ k, Hid (st'.n = k) := ⟨_, rfl⟩
      obtain ⟨z, hz⟩ : ∃ k, Hid (n2 / 8 = k) := ⟨_, rfl⟩
      obtain ⟨bit2, hb2⟩ : ∃ k, Hid (n2 % 8 = k) := ⟨_, rfl⟩
      have hA1 : Hid ((shI used st').n / 8 = used + z) := Lib.hid (by have := hn2e.out; have := hz.out; show (st'.n + 8 * used) / 8 = _; omega)
      have hA2 : Hid ((shI used st').n % 8 = bit2) := Lib.hid (by have := hn2e.out; have := hb2.out; show (st'.n + 8 * used) % 8 = _; omega)
      rw [hn2e.out] at H5 hn2
      have hzb : z ≤ buf.size := by have := hz.out; omega
      have hzb2 : z ≤ 1000000 := by omega
      have hbuf3 : Hid (A'.extract (used + z) A'.size = buf.extract z buf.size) := Lib.hid (by rw [← hbuf.out, hus.out]; exact (ext_ext (by rw [hZ2.out]; have := hus.out; omega)).symm)
      obtain ⟨is2, his2⟩ : ∃ k, Hid (st'.tab.isSome = k) := ⟨_, rfl⟩
      obtain ⟨la2, hla2⟩ : ∃ k, Hid (st'.last = k) := ⟨_, rfl⟩
      have hdone : Hid ((shI used st').done = (la2 && !is2)) := Lib.hid (by
        rw [← his2.out, ← hla2.out]
        show (st'.last && st'.tab.isNone) = _
        cases st'.tab <;> rfl)
      rw [his2.out, hla2.out] at H5
      obtain ⟨sa, sc, h1', h2', HR⟩ := H5.str
      obtain ⟨N2, hN2⟩ : ∃ k, Hid (st'.out.length = k) := ⟨_, rfl⟩
      rw [hN2.out] at HR
      have HP := (HR.front 3 rfl).prt
      rw [se_zero.1, se_zero.2] at HP
      have c1 := HP.cells
      replace HR : Own w0 wc (blk gr (.cells #[.string buf, .int .i64 bit, .int .i64 used, .slice sa N2 sc, .int .i64 most, .int .i64 told, .bool is2, .bool la2, lit', dist', .int .i64 0, .bool false] 40) :: slc 5 1 (.slice sa N2 sc) N2 (bcells st'.out) :: TabP lit' dist' st'.tab :: blk g (.cells #[.pointer (some ⟨rg, 0, none⟩), .bool false, .int .i64 0] 45) :: Rdr rg buf n2 :: ps) := ((((HP.front 4 rfl).front 4 rfl).front 4 rfl))
      clear HP H5 h1' h2'
      have HU : Hid (∀ (w' : World) (qs : List Piece), Own w0 w' (Rdr rg buf n2 :: qs) → _) := Lib.hid fun (w' : World) (qs : List Piece) (h : Own w0 w' (Rdr rg buf n2 :: qs)) => used_any h
      have q1 : (n2 : Int).tdiv 8 = (z : Int) := by have := hz.out; rw [Int.tdiv_eq_ediv_of_nonneg (by omega)]; omega
      have q2 : (n2 : Int) / 8 = (z : Int) := by have := hz.out; omega
      have q3 : IntKind.i64.wrap (z : Int) = (z : Int) := IntWalk.i64_in _ ⟨by omega, by omega⟩
      have q4 : (n2 : Int).tmod 8 = (bit2 : Int) := by have := hb2.out; rw [Int.tmod_eq_emod_of_nonneg (by omega)]; omega
      have q5 : (n2 : Int) % 8 = (bit2 : Int) := by have := hb2.out; omega
      have q6 : IntKind.i64.wrap (bit2 : Int) = (bit2 : Int) := IntWalk.i64_in _ ⟨by have := hb2.out; omega, by have := hb2.out; omega⟩
      have q7 : IntKind.i64.wrap ((used : Int) + (z : Int)) = (used : Int) + (z : Int) := IntWalk.i64_in _ ⟨by omega, by omega⟩
      go_upto_region 15 with (refine wpList_store_int rfl _ _ rfl rfl HR rfl (by kernel_rfl) (by simp) ?_; clear HR; intro w5 HR; have c0 := HR.cells)
      replace HR : Own w0 w5 (blk gr (.cells #[.string buf, .int .i64 bit, .int .i64 used, .slice sa N2 sc, .int .i64 most, .int .i64 told, .bool is2, .bool la2, lit', dist', .int .i64 0, .bool false] 40) :: slc 5 1 (.slice sa N2 sc) N2 (bcells st'.out) :: TabP lit' dist' st'.tab :: blk g (.cells #[.pointer (some ⟨rg, 0, none⟩), .bool false, .int .i64 0] 45) :: Rdr rg buf n2 :: ps) := HR
      clear c0 c1
      have c0 := HR.cells
      have c1 := (HR.front 3 rfl).cells
      go_wp2_with fail
      refine (HU.out _ _ (HR.front 4 rfl)).mono ?_
      rintro e0 w6 ⟨rfl, rfl⟩
      go_upto_region 16 with (fail)
      have hsl : ∀ w, (Instr.sliceAt 9 (.string buf) (some (.int .i64 (z : Int))) none none).run Try.prog w = .ok (.string (buf.extract z buf.size)) w := fun w => by
        have hzI : (z : Int) ≤ (buf.size : Int) := by omega
        go_simp
      obtain ⟨buf2, hbuf2⟩ : ∃ b, Hid (buf.extract z buf.size = b) := ⟨_, rfl⟩
      rw [hbuf2.out] at hsl hbuf3
      have HD0 := HR.drew
      clear c0 c1 HR
      refine Trd.wp_region_new (fun σ w1 => ((σ 23).isSome = true → (σ 6).isSome = true) ∧ Own w0 w1 (blk gr (.cells #[.string (if (σ 23).isSome = true then buf2 else buf), .int .i64 (if (σ 26).isSome = true then (bit2 : Int) else (bit : Int)), .int .i64 used, .slice sa N2 sc, .int .i64 most, .int .i64 told, .bool is2, .bool la2, lit', dist', .int .i64 0, .bool false] 40) :: slc 5 1 (.slice sa N2 sc) N2 (bcells st'.out) :: TabP lit' dist' st'.tab :: blk g (.cells #[.pointer (some ⟨rg, 0, none⟩), .bool false, .int .i64 0] 45) :: Rdr rg buf n2 :: ps)) 29 [] [6, 23, 26] (by intro k hk; simp at hk; rcases hk with rfl | rfl | rfl <;> exact ⟨by omega, by simp, fun o ho => by simp at ho; subst ho; rfl⟩) (by kernel_rfl) (by kernel_rfl) ⟨fun h => by simp [Sig.no] at h, HD0⟩ ?_
      simp only [List.take_succ_cons, List.take_zero, List.drop_succ_cons, List.drop_zero]
      repeat
        first
        | (refine Trd.calm_value (v := ?_) (by decide) (by decide) rfl (fun σ w1 hS => ?_) ?_
           rotate_left
           · have c0 := hS.2.cells; have c1 := (hS.2.front 3 rfl).cells
             first | (go_simp; rfl) | rfl
           simp only [Act.put, List.setIfInBounds_toArray, List.set_cons_zero, List.set_cons_succ])
        | (refine Trd.calm_skip (by decide) rfl ?_
           simp only [Act.put, List.setIfInBounds_toArray, List.set_cons_zero, List.set_cons_succ])
      refine Trd.calm_track (v := .string buf) (by decide) (by decide) rfl (fun σ w1 hS hn _ => ?_) ?_
      · have h23 : (σ 23).isSome = false := by
          cases h : (σ 23).isSome with
          | false => rfl
          | true => have := hS.1 h; rw [hn] at this; cases this
        have c0 := hS.2.cells
        rw [h23] at c0
        refine ⟨w1, by go_simp, fun _ => by simp [Sig.upd], ?_⟩
        simpa [Sig.upd] using hS.2
      simp only [Act.put, List.setIfInBounds_toArray, List.set_cons_zero, List.set_cons_succ]
      repeat
        first
        | (refine Trd.calm_value (v := ?_) (by decide) (by decide) rfl (fun σ w1 hS => ?_) ?_
           rotate_left
           · have c0 := hS.2.cells; have c1 := (hS.2.front 3 rfl).cells
             first | (go_simp; rfl) | rfl
           simp only [Act.put, List.setIfInBounds_toArray, List.set_cons_zero, List.set_cons_succ])
        | (refine Trd.calm_skip (by decide) rfl ?_
           simp only [Act.put, List.setIfInBounds_toArray, List.set_cons_zero, List.set_cons_succ])
      refine dcalm_call (v := .int .i64 n2) (by decide) (by decide) rfl (fun w1 => (by go_simp; first | exact ⟨rfl, rfl⟩ | rfl)) (fun σ w1 hS => ?_) ?_
      · refine (HU.out _ _ (hS.2.front 4 rfl)).mono ?_
        rintro e5 w5 ⟨rfl, rfl⟩
        exact ⟨rfl, hS⟩
      simp only [Act.put, List.setIfInBounds_toArray, List.set_cons_zero, List.set_cons_succ]
      repeat
        first
        | (refine Trd.calm_value (v := ?_) (by decide) (by decide) rfl (fun σ w1 hS => ?_) ?_
           rotate_left
           · have c0 := hS.2.cells; have c1 := (hS.2.front 3 rfl).cells
             first | (go_simp; rfl) | rfl
           simp only [Act.put, List.setIfInBounds_toArray, List.set_cons_zero, List.set_cons_succ])
        | (refine Trd.calm_skip (by decide) rfl ?_
           simp only [Act.put, List.setIfInBounds_toArray, List.set_cons_zero, List.set_cons_succ])
      refine dcalm_store (off := 0) (u := .string buf2) _ _ (by decide) (by decide) rfl rfl rfl rfl rfl (by kernel_rfl) rfl (fun σ w1 hS hn hd => ?_) ?_
      · have h6 := hd 6 (by decide) ⟨⟨6, .phase⟩, by simp, by decide, rfl⟩
        refine ⟨w0, _, _, _, hS.2, by simp, fun w' h => ⟨fun _ => by simpa [Sig.upd] using h6, ?_⟩⟩
        simpa [Sig.upd] using h
      simp only [Act.put]
      repeat
        first
        | (refine Trd.calm_value (v := ?_) (by decide) (by decide) rfl (fun σ w1 hS => ?_) ?_
           rotate_left
           · have c0 := hS.2.cells; have c1 := (hS.2.front 3 rfl).cells
             first | (go_simp; rfl) | rfl
           simp only [Act.put, List.setIfInBounds_toArray, List.set_cons_zero, List.set_cons_succ])
        | (refine Trd.calm_skip (by decide) rfl ?_
           simp only [Act.put, List.setIfInBounds_toArray, List.set_cons_zero, List.set_cons_succ])
      refine dcalm_store (off := 1) (u := .int .i64 (bit2 : Int)) _ _ (by decide) (by decide) rfl rfl rfl rfl rfl (by kernel_rfl) rfl (fun σ w1 hS hn hd => ?_) ?_
      · refine ⟨w0, _, _, _, hS.2, by simp, fun w' h => ⟨fun h9 => by simpa [Sig.upd] using hS.1 (by simpa [Sig.upd] using h9), ?_⟩⟩
        simpa [Sig.upd] using h
      simp only [Act.put]
      repeat
        first
        | (refine Trd.calm_value (v := ?_) (by decide) (by decide) rfl (fun σ w1 hS => ?_) ?_
           rotate_left
           · have c0 := hS.2.cells; have c1 := (hS.2.front 3 rfl).cells
             first | (go_simp; rfl) | rfl
           simp only [Act.put, List.setIfInBounds_toArray, List.set_cons_zero, List.set_cons_succ])
        | (refine Trd.calm_skip (by decide) rfl ?_
           simp only [Act.put, List.setIfInBounds_toArray, List.set_cons_zero, List.set_cons_succ])
      refine Trd.calm_nil ?_
      intro σ wd _ hσ HD
      replace HD := HD.2
      rw [if_pos (hσ 23 (by decide)), if_pos (hσ 26 (by decide))] at HD
      clear hσ HD0
      simp only [putNew, List.foldl_nil]
      go_upto_region 17 with (refine wpList_store_int rfl _ _ rfl rfl HD rfl (by kernel_rfl) (by simp) ?_; clear HD; intro w7 HD)
      replace HD : Own w0 w7 (blk gr (.cells #[.string buf2, .int .i64 bit2, .int .i64 ((used : Int) + (z : Int)), .slice sa N2 sc, .int .i64 most, .int .i64 told, .bool is2, .bool la2, lit', dist', .int .i64 0, .bool false] 40) :: slc 5 1 (.slice sa N2 sc) N2 (bcells st'.out) :: TabP lit' dist' st'.tab :: blk g (.cells #[.pointer (some ⟨rg, 0, none⟩), .bool false, .int .i64 0] 45) :: Rdr rg buf n2 :: ps) := HD
      have FIN : Hid (∀ w', Own w0 w' (blk gr (.cells #[.string buf2, .int .i64 bit2, .int .i64 ((used : Int) + (z : Int)), .slice sa N2 sc, .int .i64 most, .int .i64 told, .bool is2, .bool la2, lit', dist', .int .i64 0, .bool (la2 && !is2)] 40) :: slc 5 1 (.slice sa N2 sc) N2 (bcells st'.out) :: TabP lit' dist' st'.tab :: blk g (.cells #[.pointer (some ⟨rg, 0, none⟩), .bool false, .int .i64 0] 45) :: Rdr rg buf n2 :: ps) → Own w0 w' (StP gr A' most told (shI used st') 0 :: ps)) := Lib.hid fun w' h => by
        refine unstp (lit := lit') (dist := dist') ?_
        rw [hA1.out, hA2.out, hbuf3.out, hdone.out]
        have e1 : (shI used st').out = st'.out := rfl
        have e2 : (shI used st').tab = st'.tab := rfl
        have e3 : (shI used st').last = st'.last := rfl
        rw [e1, e2, e3, his2.out, hla2.out, Int.natCast_add]
        exact ((h.unstr hN2.out.symm).front 2 rfl).drop.front 2 rfl |>.drop
      clear hA1 hA2 hbuf3 hdone hbuf2 hN2 his2 hla2 hn2e hz hb2 q1 q2 q3 q4 q5 q6 q7 hsl HU
      have c0 := HD.cells
      cases la2 <;> cases is2
      all_goals
        go_wp2_with (refine wpList_store_bool rfl _ _ rfl rfl HD rfl (by kernel_rfl) (by simp) ?_; clear HD c0; intro w8 HD)
        have H9 := FIN.out _ HD
        clear HD FIN
        simp only [Act.put]
        go_roundw
        case rel => exact ⟨shI used st', hst2, H9⟩
        case measure =>
          rw [hmz.out, feedmeas_own H9]
          have h1 := hst2.out.2.1
          have h2 := hlt.out
          omega
  case rest =>
    clear H hst0
    obtain ⟨st1, e1, hst, hend, H⟩ := hcut
    obtain ⟨lit, dist, H⟩ := H.stp
    have ho1 := hst.out.2.2.1
    have ht1 := hst.out.2.2.2
    obtain ⟨buf, hbuf⟩ : ∃ b, Hid (A'.extract (st1.n / 8) A'.size = b) := ⟨_, rfl⟩
    obtain ⟨bit, hbt⟩ : ∃ b, Hid (st1.n % 8 = b) := ⟨_, rfl⟩
    obtain ⟨used, hus⟩ : ∃ b, Hid (st1.n / 8 = b) := ⟨_, rfl⟩
    obtain ⟨ins, hins⟩ : ∃ b, Hid (st1.tab.isSome = b) := ⟨_, rfl⟩
    obtain ⟨la, hla⟩ : ∃ b, Hid (st1.last = b) := ⟨_, rfl⟩
    obtain ⟨dn, hdn⟩ : ∃ b, Hid (st1.done = b) := ⟨_, rfl⟩
    obtain ⟨out, hout⟩ : ∃ b, Hid (st1.out = b) := ⟨_, rfl⟩
    rw [hbuf.out, hbt.out, hus.out, hins.out, hla.out, hdn.out, hout.out] at H
    rw [hout.out] at ho1 ht1
    have FIN : Hid (∀ w', Own w0 w' (StR gr ⟨buf, (bit : Int), (used : Int), out, most, (out.length : Int), ins, la, lit, dist, e1, dn⟩ :: TabP lit dist st1.tab :: ps) → FeedPost w0 ps gr A' most told st (.tuple #[.string (strOfNums (out.drop told)), .int .i64 e1]) w') := Lib.hid fun w' h => by
      refine ⟨st1, e1, by rw [hout.out], ?_, ?_, unstp (lit := lit) (dist := dist) ?_⟩
      · rw [hB.out, hZ2.out]; exact hst.out
      · rw [hB.out]; exact hend.out
      · rw [hbuf.out, hbt.out, hus.out, hins.out, hla.out, hdn.out, hout.out]; exact h
    clear hst hend hbuf hbt hus hins hla hdn hout hB hZ2 hA'
    obtain ⟨sa, sc, h1, h2, HR⟩ := H.str
    obtain ⟨N, hN⟩ : ∃ k, Hid (out.length = k) := ⟨_, rfl⟩
    rw [hN.out] at HR ho1 ht1 h1
    obtain ⟨txt, htxt⟩ : ∃ t, Hid (strOfNums (out.drop told) = t) := ⟨_, rfl⟩
    rw [htxt.out, hN.out] at FIN
    obtain ⟨tv, htv⟩ : ∃ v, Hid (sliced sa told N sc 1 = v) := ⟨_, rfl⟩
    have hsl : ∀ w, (Instr.sliceAt 37 (.slice sa N sc) (some (.int .i64 (told : Int))) none none).run Try.prog w = .ok tv w := fun w => run_slice_from (by kernel_rfl) (fun _ => by kernel_rfl) ht1 htv.out w
    have hcv : Hid (∀ (w1 : World) (q : Piece) (qs : List Piece), Own w0 w1 (q :: slc 5 1 (.slice sa N sc) N (bcells out) :: qs) → (convert 37 9 tv).run Try.prog w1 = .ok (.string txt) w1) := Lib.hid fun w1 q qs h => by
      rw [← htxt.out]
      have hr := (h.front 1 rfl).rd.sliced (k := told) (m := N) ht1 (Nat.le_refl _)
      rw [htv.out] at hr
      have e9 : (List.take (N * 1) (bcells out)).drop (told * 1) = (out.drop told).map (.int .u8) := by
        rw [Nat.mul_one, Nat.mul_one, List.take_of_length_le (by rw [bcells_length, hN.out]; exact Nat.le_refl _)]
        simp [bcells]
      rw [e9] at hr
      exact run_string_sep (P := Try.prog) 37 9 Try.underlying37 Try.underlying5 Try.underlying9 hr
    have hwN : IntKind.i64.wrap (N : Int) = (N : Int) := IntWalk.i64_in _ ⟨by omega, by omega⟩
    go_upto_region 18 with (fail)
    refine wp_region_calm (fun w1 => Own w0 w1 (blk gr (.cells #[.string buf, .int .i64 bit, .int .i64 used, .slice sa N sc, .int .i64 most, .int .i64 told, .bool ins, .bool la, lit, dist, .int .i64 e1, .bool dn] 40) :: slc 5 1 (.slice sa N sc) N (bcells out) :: TabP lit dist st1.tab :: ps)) 10 (by kernel_rfl) (by kernel_rfl) HR.drew ?_
    simp only [List.take_succ_cons, List.take_zero, List.drop_succ_cons, List.drop_zero]
    repeat
      first
      | (refine calm_value (v := ?_) (by decide) rfl (fun σ w1 hS => ?_) ?_
         rotate_left
         · have c0 := hS.cells; have c1 := hcv.out _ _ _ hS
           first | (go_simp; rfl) | rfl
         simp only [Act.put, List.setIfInBounds_toArray, List.set_cons_zero, List.set_cons_succ])
      | (refine calm_skip (by decide) rfl ?_
         simp only [Act.put, List.setIfInBounds_toArray, List.set_cons_zero, List.set_cons_succ])
    refine calm_nil ?_
    intro wd HD
    clear HR hsl hcv htv htxt H
    have c0 := HD.cells
    go_upto_region 20 with (refine wpList_store_int rfl _ _ rfl rfl HD rfl (by kernel_rfl) (by simp) ?_; clear HD c0; intro w7 HD)
    simp only [Act.put]
    replace HD : Own w0 w7 (blk gr (.cells #[.string buf, .int .i64 bit, .int .i64 used, .slice sa N sc, .int .i64 most, .int .i64 N, .bool ins, .bool la, lit, dist, .int .i64 e1, .bool dn] 40) :: slc 5 1 (.slice sa N sc) N (bcells out) :: TabP lit dist st1.tab :: ps) := HD
    refine wp_region_calm (fun w1 => Own w0 w1 (blk gr (.cells #[.string buf, .int .i64 bit, .int .i64 used, .slice sa N sc, .int .i64 most, .int .i64 N, .bool ins, .bool la, lit, dist, .int .i64 e1, .bool dn] 40) :: slc 5 1 (.slice sa N sc) N (bcells out) :: TabP lit dist st1.tab :: ps)) 6 (by kernel_rfl) (by kernel_rfl) HD.drew ?_
    simp only [List.take_succ_cons, List.take_zero, List.drop_succ_cons, List.drop_zero]
    repeat
      first
      | (refine calm_value (v := ?_) (by decide) rfl (fun σ w1 hS => ?_) ?_
         rotate_left
         · have c0 := hS.cells
           first | (go_simp; rfl) | rfl
         simp only [Act.put, List.setIfInBounds_toArray, List.set_cons_zero, List.set_cons_succ])
      | (refine calm_skip (by decide) rfl ?_
         simp only [Act.put, List.setIfInBounds_toArray, List.set_cons_zero, List.set_cons_succ])
    refine calm_nil ?_
    intro we HE
    clear HD
    go_wp2_with fail
    go_ret2
    exact ⟨_, rfl, FIN.out _ (HE.unstr hN.out.symm)⟩
end Go.Proofs.Ytljejkdkjnbmhaa
/- stream: part by part along the one way, plainly. No program in sight. -/
namespace Go.Proofs.Ytljejkdkjnbmhaa
open Go.RowKit

/-- Behind t bytes of P, on the way to its end. -/
def OnWay (P : ByteArray) (most : Int) (fin : Inf) (t : Nat) (st : Inf) : Prop :=
  Steps (textBits P) most Inf.init st ∧ Steps (textBits P) most st fin ∧ st.n ≤ 8 * t
theorem bits_take (P : ByteArray) (t : Nat) : textBits (P.extract 0 t) = (textBits P).take (8 * t) := by
  have e2 : ∀ (l : List Int) (j : Nat), (bitsOfNums l).take (8 * j) = bitsOfNums (l.take j) := by
    intro l
    induction l with
    | nil => intro j; simp [bitsOfNums]
    | cons x t ih =>
      intro j
      cases j with
      | zero => simp [bitsOfNums]
      | succ j =>
        rw [List.take_succ_cons, bitsOfNums, List.flatMap_cons, bitsOfNums, List.flatMap_cons, show 8 * (j + 1) = (bitsOf x 8).length + 8 * j by rw [bitsOf_length]; omega, List.take_length_add_append]
        exact congrArg _ (ih j)
  unfold textBits
  rw [e2]
  congr 1
  unfold byteNums
  rw [ByteArray.data_extract, Array.toList_extract, List.extract_eq_take_drop, ← List.map_take, List.drop_zero, Nat.sub_zero]
theorem onway_start {P : ByteArray} {most : Int} {fin : Inf} (h : Steps (textBits P) most Inf.init fin) : OnWay P most fin 0 Inf.init := ⟨.refl _, h, by simp [Inf.init]⟩
/-- A Feed goes on along the way. -/
theorem onway_feed {P : ByteArray} {most : Int} {fin st st' : Inf} {t t' Z told : Nat} {e : Int} (hf : fin.done = true) (h : OnWay P most fin t st) (ht : t ≤ t') (hP : t' ≤ P.size)
    (h1 : FeedSt (textBits (P.extract 0 t')) Z most told st st') (h2 : FeedEnd (textBits (P.extract 0 t')) most st' e) : e = 0 ∧ OnWay P most fin t' st' ∧ (t' = P.size → st' = fin) := by
  obtain ⟨a1, a2, a3⟩ := h
  have hl : (textBits P).length = 8 * P.size := textBits_length P
  have hm : 8 * t' ≤ (textBits P).length := by omega
  rw [bits_take] at h1 h2
  obtain ⟨b1, b2, b3⟩ := steps_one hm h1.1 (by omega) a2 hf
  have hw : OnWay P most fin t' st' := ⟨a1.trans b1, b2, b3⟩
  rcases h2 with ⟨hd, rfl⟩ | ⟨hd, rfl, hr⟩ | ⟨hd, he, hr⟩
  · exact ⟨rfl, hw, fun _ => steps_done b2 hd⟩
  · refine ⟨rfl, hw, fun h9 => ?_⟩
    rw [List.take_of_length_le (by omega)] at hr
    exact absurd hr (steps_nran b2 hf hd)
  · exact absurd hr (steps_nbad hm b3 b2 hf hd)
/-- What is told so far, and what is told then. -/
theorem str_grow {a b : List Int} (h : a <+: b) : strOfNums a ++ strOfNums (b.drop a.length) = strOfNums b := by
  obtain ⟨c, rfl⟩ := h
  rw [List.drop_left]
  unfold strOfNums
  apply ByteArray.ext
  rw [ByteArray.data_append]
  simp
def gotB : Got Inf → Inf → Bool
  | .ok st _, st' => decide (st.n = st'.n) && (decide (st.out = st'.out) && (decide (st.tab = st'.tab) && decide (st.last = st'.last)))
  | _, _ => false
theorem gotB_eq {g : Got Inf} {st : Inf} (h : gotB g st = true) : ∃ m, g = .ok st m := by
  cases g with
  | ok st' m =>
    simp only [gotB, Bool.and_eq_true, decide_eq_true_eq] at h
    obtain ⟨h1, h2, h3, h4⟩ := h
    obtain ⟨a, b, c, d⟩ := st'
    obtain ⟨a', b', c', d'⟩ := st
    simp only at h1 h2 h3 h4
    subst h1; subst h2; subst h3; subst h4
    exact ⟨m, rfl⟩
  | ran => cases h
  | bad e => cases h
def exP : ByteArray := ⟨#[0x4b, 4, 0]⟩
def endF : Inf := ⟨18, [97], none, true⟩
set_option maxRecDepth 100000 in
theorem ex_1 : ∃ m, stepG (textBits exP) 9 Inf.init = .ok ⟨3, [], some fixTab, true⟩ m := gotB_eq (by decide +kernel)
set_option maxRecDepth 100000 in
theorem ex_2 : ∃ m, stepG (textBits exP) 9 ⟨3, [], some fixTab, true⟩ = .ok ⟨11, [97], some fixTab, true⟩ m := gotB_eq (by decide +kernel)
set_option maxRecDepth 100000 in
theorem ex_3 : ∃ m, stepG (textBits exP) 9 ⟨11, [97], some fixTab, true⟩ = .ok endF m := gotB_eq (by decide +kernel)
theorem ex_way : Steps (textBits exP) 9 Inf.init endF := by
  obtain ⟨m1, h1⟩ := ex_1
  obtain ⟨m2, h2⟩ := ex_2
  obtain ⟨m3, h3⟩ := ex_3
  exact .step rfl h1 (.step rfl h2 (.step rfl h3 (.refl _)))
/-- Of the example's first byte nothing is told. -/
theorem ex_first {st : Inf} (h : OnWay exP 9 endF 1 st) : st.out = [] := by
  obtain ⟨h1, -, h3⟩ := h
  obtain ⟨m1, e1⟩ := ex_1
  obtain ⟨m2, e2⟩ := ex_2
  cases h1 with
  | refl => rfl
  | step hd hs hr =>
    rw [e1] at hs
    cases hs
    cases hr with
    | refl => rfl
    | step hd hs hr =>
      rw [e2] at hs
      cases hs
      have := (steps_mono hr (by rw [textBits_length]; decide)).1
      simp only at this
      omega
/-- Behind the second it is not done. -/
theorem ex_second {st : Inf} (h : OnWay exP 9 endF 2 st) : st.done = false := by
  obtain ⟨-, h2, h3⟩ := h
  cases hd : st.done with
  | false => rfl
  | true =>
    have := steps_done h2 hd
    subst this
    simp [endF] at h3
end Go.Proofs.Ytljejkdkjnbmhaa
/- stream: the walks of the examples, of a reader that is none. -/
namespace Go.Proofs.Ytljejkdkjnbmhaa
open Go.RowKit

set_option maxRecDepth 100000 in
set_option maxHeartbeats 3200000 in
theorem awake39_any (w : World) : Calls Try.prog 8 #[] w (Ret fun r w' => r = .bool true ∧ Own w w' []) := by
  have H := Own.start w
  have kd : Hid (∀ (w0 w' : World) (qs : List Piece) (gr told : Nat) (A : ByteArray) (st : Inf) (e : Int), st.n ≤ 80000000 → Own w0 w' (StP gr A 9 told st e :: qs) → _) := Lib.hid fun w0 w' qs gr told A st e hn h => stdone_any (w0 := w0) (ps := qs) hn h
  have kf : Hid (∀ (w0 w' : World) (qs : List Piece) (gr told : Nat) (A x : ByteArray) (st : Inf), A.size + x.size ≤ 1000000 → st.n ≤ 8 * A.size → (st.out.length : Int) ≤ 9 → told ≤ st.out.length → Own w0 w' (StP gr A 9 told st 0 :: qs) → _) := Lib.hid fun w0 w' qs gr told A x st h1 h2 h3 h4 h => feed_any (w0 := w0) (ps := qs) (x := x) (by decide) h1 h2 h3 h4 h
  have kn : Hid (∀ w', Own w w' [] → _) := Lib.hid fun w' h => stnew_any (w0 := w) 9 (by decide) h
  go_enter Try.func8, Try.ntmps8
  go_wp2_with fail
  refine (kn.out _ H).mono ?_
  rintro e w1 ⟨_, rfl, g, rfl, H1⟩
  have W0 : Hid (OnWay exP 9 endF 0 Inf.init) := Lib.hid (onway_start ex_way)
  clear H kn
  go_wp2_with fail
  refine (kf.out w w1 [] g 0 ByteArray.empty ⟨#[75]⟩ Inf.init (by decide) (by decide) (by decide) (by decide) H1).mono ?_
  rintro e w2 ⟨_, rfl, st1, e1, rfl, f1, d1, H2⟩
  obtain ⟨rfl, W1, -⟩ := onway_feed (P := exP) (t' := 1) rfl W0.out (by decide) (by decide) f1 d1
  have o1 : st1.out = [] := ex_first W1
  have b1 := f1.2.2.1
  replace W1 := Lib.hid W1
  have n1 : st1.n ≤ 8 * (ByteArray.empty ++ ⟨#[75]⟩ : ByteArray).size := f1.2.1
  clear H1 W0 f1 d1
  rw [o1] at H2 ⊢
  go_wp2_with fail
  refine (kf.out w w2 [] g 0 _ ⟨#[4]⟩ st1 (by decide) n1 b1 (by omega) H2).mono ?_
  rintro e w3 ⟨_, rfl, st2, e2, rfl, f2, d2, H3⟩
  obtain ⟨rfl, W2, -⟩ := onway_feed (P := exP) (t' := 2) rfl W1.out (by decide) (by decide) f2 d2
  have nd := ex_second W2
  have b2 := f2.2.2.1
  replace W2 := Lib.hid W2
  have n2 : st2.n ≤ 8 * (ByteArray.empty ++ ⟨#[75]⟩ ++ ⟨#[4]⟩ : ByteArray).size := f2.2.1
  clear H2 W1 f2 d2 n1 b1
  have n2' : st2.n ≤ 16 := n2
  go_wp2_with fail
  refine (kd.out w w3 [] g _ _ st2 0 (by omega) H3).mono ?_
  rintro e w3 ⟨_, rfl, rfl, rfl⟩
  rw [nd, if_neg (by decide)]
  go_wp2_with fail
  refine (kf.out w w3 [] g _ _ ⟨#[0]⟩ st2 (by decide) n2 b2 (Nat.le_refl _) H3).mono ?_
  rintro e w4 ⟨_, rfl, st3, e3, rfl, f3, d3, H4⟩
  obtain ⟨rfl, W3, h3⟩ := onway_feed (P := exP) (t' := 3) rfl W2.out (by decide) (by decide) f3 d3
  obtain rfl := h3 rfl
  have hgr := str_grow (steps_pre W2.out.2.1)
  obtain ⟨T2, hT2⟩ : ∃ t, Hid (strOfNums st2.out = t) := ⟨_, rfl⟩
  obtain ⟨T3, hT3⟩ : ∃ t, Hid (strOfNums (List.drop st2.out.length endF.out) = t) := ⟨_, rfl⟩
  have hT : T2 ++ T3 = ⟨#[97]⟩ := by
    rw [← hT2.out, ← hT3.out]
    exact hgr
  have hsz : ¬ 9223372036854775807 < T2.size + T3.size := by
    have : (T2 ++ T3).size = 1 := by rw [hT]; rfl
    rw [ByteArray.size_append] at this
    omega
  have hE : strOfNums ([] : List Int) = ByteArray.empty := by decide
  clear H3 W2 f3 d3 W3 h3 hgr n2 n2' b2 nd kf
  go_wp2_with fail
  refine (kd.out w w4 [] g _ _ endF 0 (by decide) H4).mono ?_
  rintro e w4 ⟨_, rfl, rfl, rfl⟩
  have hF : endF.done = true := rfl
  have hN : nbytes endF.n = 3 := by decide
  rw [hF, if_pos rfl, hN]
  rw [hT2.out, hT3.out]
  go_wp2_with fail
  go_ret
  exact ⟨_, rfl, rfl, H4.bare⟩

end Go.Proofs.Ytljejkdkjnbmhaa
/- stream: the walk of parts. -/
namespace Go.Proofs.Ytljejkdkjnbmhaa
open Go.RowKit

def catB (L : List ByteArray) : ByteArray := L.foldl (· ++ ·) ByteArray.empty
theorem foldl_cat (L : List ByteArray) : ∀ a, L.foldl (· ++ ·) a = a ++ catB L := by
  induction L with
  | nil => intro a; simp [catB]
  | cons x t ih =>
    intro a
    unfold catB
    rw [List.foldl_cons, List.foldl_cons, ih, ih, ByteArray.empty_append, ByteArray.append_assoc]
theorem catB_append (L M : List ByteArray) : catB (L ++ M) = catB L ++ catB M := by
  unfold catB
  rw [List.foldl_append, foldl_cat]
  rfl
theorem catB_one (x : ByteArray) : catB [x] = x := by
  unfold catB
  rw [List.foldl_cons, List.foldl_nil, ByteArray.empty_append]
/-- What has come with the first i parts. -/
theorem catB_take {L : List ByteArray} {s : ByteArray} (h : catB L = s) (i : Nat) : catB (L.take i) = s.extract 0 (catB (L.take i)).size ∧ (catB (L.take i)).size ≤ s.size := by
  have e : catB (L.take i) ++ catB (L.drop i) = s := by rw [← catB_append, List.take_append_drop, h]
  rw [← e]
  refine ⟨?_, by rw [ByteArray.size_append]; omega⟩
  rw [ByteArray.extract_append]
  apply ByteArray.ext
  simp
theorem catB_succ {L : List ByteArray} {i : Nat} {x : ByteArray} (h : L[i]? = some x) : catB (L.take (i + 1)) = catB (L.take i) ++ x := by
  rw [List.take_add_one, h, Option.toList_some, catB_append, catB_one]
def strs (L : List ByteArray) : List Value := L.map fun x => .string x
theorem strs_snoc (L : List ByteArray) (x : ByteArray) : strs L ++ [.string x] = strs (L ++ [x]) := by simp [strs]
theorem strs_length (L : List ByteArray) : (strs L).length = L.length := by simp [strs]
theorem strs_get {L : List ByteArray} {i : Nat} {x : ByteArray} (h : L[i]? = some x) : (strs L)[i]? = some (.string x) := by simp [strs, h]
def strOf39 : Value → ByteArray
  | .string s => s
  | _ => ByteArray.empty
theorem strInfo39 : (Try.prog.info? 9).map (fun i => (i.zero, i.size, i.bytes)) = some (some (.string ByteArray.empty), 1, 16) := by kernel_rfl

set_option maxRecDepth 100000 in
set_option maxHeartbeats 3200000 in
theorem parts_any {w : World} {s : ByteArray} {sv : Value} {M : Nat} {S : List Int} (hs : s.size ≤ 1000000) (hr : Rd w 1 sv M (nums S)) :
    Calls Try.prog 12 #[.string s, sv] w (Ret fun r w' => ∃ L, catB L = s ∧ Own w w' [slc 9 1 r L.length (strs L)]) := by
  obtain ⟨sa, sc, rfl, hsc1, hsc2⟩ := hr.shape
  have HR := Lib.hid hr
  have hMl := Lib.hid hr.len
  clear hr
  have H : Own w w [slc 9 1 (.slice none 0 0) 0 (strs [])] := (Own.start w).nil 9 1
  go_enter Try.func12, Try.ntmps12
  go_wp2_with fail
  go_loopw [0, 5, 6, 7] (fun v0 v5 v6 _ wx => ∃ (L : List ByteArray) (R : ByteArray) (i : Nat), v0 = .string R ∧ v6 = .int .i64 i ∧ Hid (catB L ++ R = s) ∧ i + R.size ≤ s.size ∧ Hid (L.length = i) ∧ Own w wx [slc 9 1 v5 i (strs L)]) (fun v0 _ _ _ _ => (strOf39 v0).size)
  case atStart => exact ⟨[], s, 0, rfl, by go_num, Lib.hid (by simp [catB]), by omega, Lib.hid rfl, H⟩
  case round =>
    clear H
    obtain ⟨L, R, i, rfl, rfl, hcat, hiR, hLi, H⟩ := hrel
    obtain ⟨la, lc, rfl, hl1, hl2⟩ := H.rd.shape
    obtain ⟨Z, hZ⟩ : ∃ Z, R.size = Z := ⟨_, rfl⟩
    rw [hZ] at hiR
    by_cases hz : Z = 0
    · subst hz
      have hfin : Hid (catB L = s) := Lib.hid (by
        rw [← hcat.out]
        have : R = ByteArray.empty := ByteArray.ext (Array.eq_empty_of_size_eq_zero hZ)
        rw [this, ByteArray.append_empty])
      go_wp2
      go_ret
      refine ⟨_, rfl, L, hfin.out, ?_⟩
      rw [hLi.out]
      exact H
    have hzI : (0 : Int) < (Z : Int) := by omega
    go_upto_region 6 with (fail)
    go_cut [21] (fun s21 wx => ∃ b, s21 = .bool b ∧ Hid (b = true → 0 < M) ∧ wx = wr)
    case first =>
      by_cases hM : 0 < M
      · have hMI : (0 : Int) < (M : Int) := by omega
        by_cases hi : i < 200
        · have hiI : (i : Int) < 200 := by omega
          go_wp2
          go_meet
          exact ⟨true, rfl, Lib.hid fun _ => hM, rfl⟩
        · have hiI : ¬ (i : Int) < 200 := by omega
          go_wp2
          go_meet
          exact ⟨false, rfl, Lib.hid fun _ => hM, rfl⟩
      · have hMI : ¬ (0 : Int) < (M : Int) := by omega
        go_wp2
        go_meet
        exact ⟨false, rfl, Lib.hid fun h => (by cases h), rfl⟩
    case rest =>
    obtain ⟨b, rfl, hb, rfl⟩ := hcut
    go_upto_if 21 with (fail)
    go_cut [7] (fun s7 wx => ∃ n : Int, s7 = .int .i64 n ∧ 1 ≤ n ∧ n ≤ 1000000 ∧ wx = wc)
    case first =>
      cases b
      case false =>
        go_wp2
        go_meet
        exact ⟨Z, rfl, by omega, by omega, rfl⟩
      case true =>
        have hM := hb.out rfl
        obtain ⟨j, hj⟩ : ∃ j, Hid (i % M = j) := ⟨_, rfl⟩
        have hjM : j < M := by rw [← hj.out]; exact Nat.mod_lt _ hM
        obtain ⟨bs, os, rfl, hc⟩ := rd_at (HR.out.old H.bare) (Own.start wc) hjM
        have hjI : (j : Int) < (M : Int) := by omega
        have hM0 : ¬ ((M : Int) = 0) := by omega
        have hM1 : ((M : Int) == 0) = false := by simp; omega
        have d1 : (i : Int).tmod (M : Int) = (j : Int) := by rw [← hj.out, Int.tmod_eq_emod_of_nonneg (by omega)]; exact (Int.natCast_emod i M).symm
        have d2 : (i : Int) % (M : Int) = (j : Int) := by rw [← hj.out]; exact (Int.natCast_emod i M).symm
        have d3 : IntKind.i64.wrap (j : Int) = (j : Int) := IntWalk.i64_in _ ⟨by omega, by omega⟩
        obtain ⟨x, hx⟩ : ∃ x, Hid (S.getD j 0 = x) := ⟨_, rfl⟩
        rw [hx.out] at hc
        obtain ⟨y, hy⟩ : ∃ y, Hid (x % 64 = y) := ⟨_, rfl⟩
        have hy2 : 0 ≤ y ∧ y < 64 := by have := hy.out; omega
        obtain ⟨hy2, hy3⟩ := hy2
        have hand : bits .and .i64 x 63 = y := by rw [i64_and63, hy.out]
        have hw : IntKind.i64.wrap (1 + y) = 1 + y := IntWalk.i64_in _ ⟨by omega, by omega⟩
        go_wp2
        go_meet
        exact ⟨1 + y, by go_num, by omega, by omega, rfl⟩
    case rest =>
    obtain ⟨n, rfl, hn1, hn2, rfl⟩ := hcut
    clear hb
    go_upto_region 8 with (fail)
    go_cut [34] (fun s34 wx => s34 = .bool (decide ((Z : Int) < n)) ∧ wx = wc)
    case first =>
      by_cases hnz : (Z : Int) < n
      · go_wp2
        go_meet
        exact ⟨by rw [decide_eq_true hnz], rfl⟩
      · go_wp2
        go_meet
        exact ⟨by rw [decide_eq_false (show ¬ (Z : Int) < n by omega)], rfl⟩
    case rest =>
    obtain ⟨rfl, rfl⟩ := hcut
    obtain ⟨b, hb⟩ : ∃ b, Hid (decide ((Z : Int) < n) = b) := ⟨_, rfl⟩
    rw [hb.out]
    go_upto_if 34 with (fail)
    go_cut [7] (fun s7 wx => ∃ k : Nat, s7 = .int .i64 k ∧ 1 ≤ k ∧ k ≤ Z ∧ wx = wc)
    case first =>
      cases b
      case true =>
        go_wp2
        go_meet
        exact ⟨Z, rfl, by omega, by omega, rfl⟩
      case false =>
        have hnz : ¬ (Z : Int) < n := by simpa using hb.out
        obtain ⟨k, rfl⟩ : ∃ k : Nat, n = k := ⟨n.toNat, by omega⟩
        go_wp2
        go_meet
        exact ⟨k, rfl, by omega, by omega, rfl⟩
    case rest =>
    obtain ⟨k, rfl, hk1, hk2, rfl⟩ := hcut
    have hkI : (k : Int) ≤ (Z : Int) := by omega
    have hcat2 : Hid (catB (L ++ [R.extract 0 k]) ++ R.extract k Z = s) := Lib.hid (by
      rw [catB_append, catB_one, ByteArray.append_assoc]
      rw [show R.extract 0 k ++ R.extract k Z = R from by
        rw [ByteArray.extract_append_extract, Nat.min_eq_left (by omega), Nat.max_eq_right (by omega), ← hZ, ByteArray.extract_zero_size]]
      exact hcat.out)
    have hsz2 : Hid ((R.extract k Z).size = Z - k) := Lib.hid (by rw [ByteArray.size_extract]; omega)
    have hw : IntKind.i64.wrap ((i : Int) + 1) = (i : Int) + 1 := IntWalk.i64_in _ ⟨by omega, by omega⟩
    clear hb hcat hn1 hn2
    go_wp2_with (at_builtin; refine wpList_append_one rfl _ _ rfl Try.underlying33 strInfo39 rfl (by decide) rfl H (news := [.string (R.extract 0 k)]) rfl rfl rfl (by simp [Value.oneCell']) (by omega) (by omega) ?_; clear H; intro v' w' H; obtain ⟨a', c', rfl, h1', h2'⟩ := H.rd.shape)
    rw [strs_snoc] at H
    go_roundw
    case rel => exact ⟨L ++ [R.extract 0 k], R.extract k Z, i + 1, rfl, by go_num, hcat2, by rw [hsz2.out]; omega, Lib.hid (by rw [List.length_append, hLi.out]; rfl), H⟩
    case measure => show (R.extract k Z).size < R.size; rw [hsz2.out, hZ]; omega
end Go.Proofs.Ytljejkdkjnbmhaa
/- stream: the walk of StreamBack. -/
namespace Go.Proofs.Ytljejkdkjnbmhaa
open Go.RowKit

theorem way_pos {bs : List Bool} {most : Int} {a f : Inf} (h : Steps bs most a f) (hf : f.done = true) (ha : a.done = false) (hn : a.n ≤ bs.length) : a.n < f.n ∧ f.n ≤ bs.length := by
  cases h with
  | refl => rw [hf] at ha; cases ha
  | step hd h1 h2 =>
    have g1 := step_goes hn h1
    have g2 := steps_mono h2 g1.2
    omega
/-- What is packed leads to its end, whatever is behind it. -/
theorem packed_way {s p : ByteArray} (h : Packed s p) (bh : ByteArray) : ∃ fin, Steps (textBits (p ++ bh)) s.size Inf.init fin ∧ fin.done = true ∧ strOfNums fin.out = s ∧ nbytes fin.n = p.size ∧ 0 < p.size := by
  obtain ⟨bits, rfl, hu, -⟩ := h
  obtain ⟨r, hr⟩ := aligned_split bits (textBits bh)
  have hs := hu (textBits (textOf bits ++ bh)) r (by rw [textBits_append, textBits_textOf, hr]; exact At.whole _ _)
  refine ⟨_, hs, rfl, strOf_nums s, (textOf_size bits).symm, ?_⟩
  have hpos := (way_pos hs rfl rfl (by simp [Inf.init])).1
  rw [textOf_size]
  unfold nbytes
  simp only at hpos
  omega
/-- While the parts come. -/
def BackSt (P : ByteArray) (most : Int) (fin : Inf) (L : List ByteArray) (i : Nat) (st : Inf) : Prop :=
  OnWay P most fin (catB (L.take i)).size st ∧ ((catB (L.take i)).size = P.size → 0 < i → st = fin) ∧ (st.out.length : Int) ≤ most
end Go.Proofs.Ytljejkdkjnbmhaa
/- stream: the walk of StreamCut. -/
namespace Go.Proofs.Ytljejkdkjnbmhaa
open Go.RowKit

/-- While the parts of a beginning come. -/
def CutSt (p : ByteArray) (most : Int) (fin : Inf) (L : List ByteArray) (i : Nat) (st : Inf) : Prop :=
  OnWay p most fin (catB (L.take i)).size st ∧ (st.out.length : Int) ≤ most
theorem cut_feed {p : ByteArray} {most : Int} {fin st st' : Inf} {L : List ByteArray} {i Z told k : Nat} {x : ByteArray} {e : Int} (hf : fin.done = true) (hk : k ≤ p.size) (hL : catB L = p.extract 0 k) (hx : L[i]? = some x) (h : CutSt p most fin L i st)
    (h1 : FeedSt (textBits (catB (L.take i) ++ x)) Z most told st st') (h2 : FeedEnd (textBits (catB (L.take i) ++ x)) most st' e) : e = 0 ∧ CutSt p most fin L (i + 1) st' ∧ st.out <+: st'.out := by
  obtain ⟨a1, a3⟩ := h
  have hs := catB_succ hx
  obtain ⟨c1, c2⟩ := catB_take hL (i + 1)
  rw [ByteArray.size_extract] at c2
  rw [ByteArray.extract_extract, Nat.zero_add, Nat.zero_add, Nat.min_eq_left (by omega)] at c1
  have hle : (catB (L.take i)).size ≤ (catB (L.take (i + 1))).size := by rw [hs, ByteArray.size_append]; omega
  have ho := h1.2.2.1
  have hp := steps_pre h1.1
  rw [← hs, c1] at h1 h2
  obtain ⟨rfl, b1, b2⟩ := onway_feed hf a1 hle (by omega) h1 h2
  exact ⟨rfl, ⟨b1, ho⟩, hp⟩
theorem cut_end {p s : ByteArray} {most : Int} {fin st : Inf} {L : List ByteArray} {k : Nat} (hk : k < p.size) (hL : catB L = p.extract 0 k) (hfn : nbytes fin.n = p.size) (hfo : strOfNums fin.out = s) (h : CutSt p most fin L L.length st) :
    st.done = false ∧ (strOfNums st.out).size ≤ s.size ∧ s.extract 0 (strOfNums st.out).size = strOfNums st.out := by
  obtain ⟨⟨a1, a2, a3⟩, -⟩ := h
  rw [List.take_length, hL, ByteArray.size_extract] at a3
  have hg := str_grow (steps_pre a2)
  rw [hfo] at hg
  refine ⟨?_, by rw [← hg, ByteArray.size_append]; omega, ?_⟩
  · cases hd : st.done with
    | false => rfl
    | true =>
      have := steps_done a2 hd
      subst this
      unfold nbytes at hfn
      omega
  · rw [← hg]
    rw [ByteArray.extract_append]
    apply ByteArray.ext
    simp

set_option maxRecDepth 100000 in
set_option maxHeartbeats 6400000 in
theorem lawcut39_any {w : World} {s0 : ByteArray} {sv : Value} {M : Nat} {S : List Int} (at' : Int) (hr : Rd w 1 sv M (nums S)) :
    Calls Try.prog 5 #[.string s0, sv, .int .i64 at'] w (Ret fun r w' => r = .bool true ∧ Own w w' []) := by
  obtain ⟨sa, sc, rfl, hsc1, hsc2⟩ := hr.shape
  have HR := Lib.hid hr
  clear hr
  go_enter Try.func5, Try.ntmps5
  go_upto_if 18 with (fail)
  obtain ⟨bx, hbx⟩ : ∃ b, Hid (decide ((1500 : Int) < (s0.size : Int)) = b) := ⟨_, rfl⟩
  rw [hbx.out]
  go_cut [0] (fun v0 wx => ∃ s : ByteArray, v0 = .string s ∧ s.size ≤ 1500 ∧ wx = w)
  case first =>
    cases bx
    case true =>
      have h1 : (1500 : Int) ≤ (s0.size : Int) := by have := hbx.out; simp at this; omega
      go_wp2
      go_meet
      exact ⟨s0.extract 0 1500, rfl, by rw [ByteArray.size_extract]; omega, rfl⟩
    case false =>
      have h1 : ¬ (1500 : Int) < (s0.size : Int) := by simpa using hbx.out
      go_wp2
      go_meet
      exact ⟨s0, rfl, by omega, rfl⟩
  case rest =>
  obtain ⟨s, rfl, hs, rfl⟩ := hcut
  clear hbx
  obtain ⟨wb, rfl⟩ : ∃ x, x = wc := ⟨_, rfl⟩
  go_wp2_with fail
  refine (pack_any s (by omega)).mono ?_
  rintro e w1 ⟨_, rfl, rfl, H⟩
  have hPk := Lib.hid (packed_pack (s := s) (by omega))
  obtain ⟨p, hpp⟩ : ∃ p, Hid (packF s = p) := ⟨_, rfl⟩
  rw [hpp.out] at hPk ⊢
  have hpz := packed_size hPk.out
  obtain ⟨fin, hway, hfd, hfo, hfn, hp0⟩ := packed_way hPk.out ByteArray.empty
  rw [ByteArray.append_empty] at hway
  replace hway := Lib.hid hway
  replace hfd := Lib.hid hfd
  replace hfo := Lib.hid hfo
  replace hfn := Lib.hid hfn
  clear hPk hpp hp0
  by_cases hat : at' < 0 ∨ (p.size : Int) ≤ at'
  · by_cases h1 : at' < 0
    · go_wp2_with fail
      refine (awake39_any _).mono ?_
      rintro e w7 ⟨_, rfl, rfl, H7⟩
      go_wp2_with fail
      go_ret
      exact ⟨_, rfl, rfl, (H.join H7).bare⟩
    · have h2 : (p.size : Int) ≤ at' := by omega
      clear hat
      go_wp2_with fail
      refine (awake39_any _).mono ?_
      rintro e w7 ⟨_, rfl, rfl, H7⟩
      go_wp2_with fail
      go_ret
      exact ⟨_, rfl, rfl, (H.join H7).bare⟩
  have h1 : ¬ at' < 0 := by omega
  have h2 : ¬ (p.size : Int) ≤ at' := by omega
  obtain ⟨k, rfl⟩ : ∃ k : Nat, at' = k := ⟨at'.toNat, by omega⟩
  clear hat
  obtain ⟨mz, hmz⟩ : ∃ m, Hid (s.size = m) := ⟨_, rfl⟩
  have hmI : (0 : Int) ≤ (mz : Int) ∧ (mz : Int) ≤ 1000000 := by have := hmz.out; omega
  rw [hmz.out] at hway
  have KN := Lib.hid (stnew_any (mz : Int) hmI.1 H)
  clear H
  have hmz2 : s.size = mz := hmz.out
  have hkp : (k : Int) ≤ (p.size : Int) := by omega
  have hkn : k < p.size := by omega
  go_wp2_with fail
  refine KN.out.mono ?_
  rintro e w3 ⟨_, rfl, g, rfl, H⟩
  clear KN
  have KP := Lib.hid (parts_any (s := p.extract 0 k) (w := w3) (by rw [ByteArray.size_extract]; omega) (HR.out.old H.bare))
  go_wp2_with fail
  refine KP.out.mono ?_
  rintro e w4 ⟨_, rfl, L, hcat, J⟩
  replace H := H.join J
  clear J KP HR
  replace hcat := Lib.hid hcat
  obtain ⟨la, lc, rfl, hl1, hl2⟩ := H.rd.shape
  obtain ⟨q, hq⟩ : ∃ q, Hid (L.length = q) := ⟨_, rfl⟩
  rw [hq.out] at H hl1 ⊢
  have hst0 : Hid (CutSt p mz fin L 0 Inf.init) := Lib.hid ⟨onway_start hway.out, by simp [Inf.init]⟩
  have hPb : p.size ≤ 13000 := by omega
  go_upto_region 9 with (fail)
  go_wp2_with fail
  go_loopw [10, 11, 12, 13] (fun v12 v13 _ _ wx => ∃ (i : Nat) (st : Inf), v12 = .string (strOfNums st.out) ∧ v13 = .int .i64 i ∧ i ≤ q ∧ Hid (CutSt p mz fin L i st) ∧ Own wb wx [slc 9 1 (.slice la q lc) q (strs L), StP g (catB (L.take i)) mz st.out.length st 0]) (fun _ v13 _ _ _ => q - (intOf v13).toNat)
  case atStart => exact ⟨0, Inf.init, rfl, by go_num, by omega, hst0, H⟩
  case round =>
    clear H hst0
    obtain ⟨i, st, rfl, rfl, hiq, hst, H⟩ := hrel
    by_cases hi : i < q
    · have hiI : (i : Int) < (q : Int) := by omega
      obtain ⟨x, hx⟩ : ∃ x, L[i]? = some x := ⟨_, List.getElem?_eq_getElem (by rw [hq.out]; exact hi)⟩
      have hx2 := Lib.hid hx
      obtain ⟨lb, lc', hlb, -, -, -, -, hcl, -⟩ := H.at (by rw [strs_length, hq.out]; omega)
      cases hlb
      have c0 : wr.cell? ⟨lb, i, none⟩ = some (.string x) := hcl i _ (strs_get hx)
      obtain ⟨z1, z2⟩ := catB_take hcat.out (i + 1)
      rw [catB_succ hx, ByteArray.size_append, ByteArray.size_extract] at z2
      have hcs := Lib.hid (catB_succ hx)
      obtain ⟨A, hA⟩ : ∃ A, Hid (catB (L.take i) = A) := ⟨_, rfl⟩
      rw [hA.out] at H z2
      have hstn : st.n ≤ 8 * A.size := by have h := hst.out.1.2.2; rw [hA.out] at h; exact h
      have KF := Lib.hid (feed_any (x := x) hmI (by omega) hstn hst.out.2 (Nat.le_refl _) (H.front 1 rfl))
      clear hx z1 hcl
      go_wp2_with fail
      refine KF.out.mono ?_
      rintro e w5 ⟨_, rfl, st', e', rfl, f1, d1, H5⟩
      rw [← hA.out] at f1 d1
      obtain ⟨rfl, hst2, hpre⟩ := cut_feed hfd.out (by omega) hcat.out hx2.out hst.out f1 d1
      replace hst2 := Lib.hid hst2
      have hgr := str_grow hpre
      have hlo := hst2.out.2
      replace hcs : Hid (catB (L.take (i + 1)) = A ++ x) := Lib.hid (by rw [← hA.out]; exact hcs.out)
      obtain ⟨T1, hT1⟩ : ∃ t, Hid (strOfNums st.out = t) := ⟨_, rfl⟩
      obtain ⟨T2, hT2⟩ : ∃ t, Hid (strOfNums (st'.out.drop st.out.length) = t) := ⟨_, rfl⟩
      rw [hT1.out, hT2.out] at hgr ⊢
      have hsz2 : ¬ 9223372036854775807 < T1.size + T2.size := by
        have h9 : (T1 ++ T2).size = st'.out.length := by rw [hgr]; unfold strOfNums; simp [ByteArray.size]
        rw [ByteArray.size_append] at h9
        omega
      have hw : IntKind.i64.wrap ((i : Int) + 1) = (i : Int) + 1 := IntWalk.i64_in _ ⟨by omega, by omega⟩
      clear f1 d1 hpre KF c0 H
      go_wp2_with fail
      go_roundw
      case rel => exact ⟨i + 1, st', by rw [← hgr], by go_num, by omega, hst2, by rw [hcs.out]; exact H5.front 1 rfl⟩
      case measure => simp [intOf]; omega
    · obtain rfl : i = q := by omega
      have hiI : ¬ (i : Int) < (i : Int) := by omega
      have hst2 := hst.out
      rw [← hq.out] at hst2
      obtain ⟨hnd, hle, hpx⟩ := cut_end hkn hcat.out hfn.out hfo.out hst2
      have hn9 : st.n ≤ 80000000 := by
        have h := hst2.1.2.2
        rw [List.take_length, hcat.out, ByteArray.size_extract] at h
        omega
      have KD := Lib.hid (stdone_any hn9 (H.front 1 rfl))
      rw [hnd, if_neg (by decide)] at KD
      obtain ⟨T, hT⟩ : ∃ t, Hid (strOfNums st.out = t) := ⟨_, rfl⟩
      rw [hT.out] at hle hpx ⊢
      rw [hmz.out] at hle
      have hleI : (T.size : Int) ≤ (mz : Int) := by omega
      clear hst hst2 hway hfd hfn hfo hn9 hnd
      go_wp2_with fail
      refine KD.out.mono ?_
      rintro e w6 ⟨_, rfl, rfl, rfl⟩
      go_wp2_with fail
      refine (awake39_any _).mono ?_
      rintro e w7 ⟨_, rfl, rfl, H7⟩
      go_wp2_with fail
      go_ret
      exact ⟨_, rfl, rfl, (H.join H7).bare⟩
end Go.Proofs.Ytljejkdkjnbmhaa
