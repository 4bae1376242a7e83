/-
  Texts of this claim, one behind the other: flate; flate; flate; The reference's Same; huff; huff; huff; Bits; flate; flate; lz; Bits; Bits; Bits; Bits; flate; flate; flate; flate; Two slices of ints, held against one another; flate; flate.
-/
import Derived.Test.YteoecchggjmffaaPb3
import Derived.Deep.LoopGhost
import Derived.WalkLawsBesides
import Derived.WalkSpells
import Derived.Deep.DeepCutAuto
import Derived.Deep.CutBlock
import Derived.Test.YteoecchggjmffaaRows
import Derived.Deep.OwnRows
set_option linter.unusedVariables false
/- flate: the walks of a block by the fixed codes; of Simple. -/
namespace Go.Proofs.Yteoecchggjmffaa
open Go.RowKit

theorem fix_sym {t : Tok} (h : TokOk t) : SymOk fixL fixD t := by
  refine ⟨h, fun h0 => ?_, fun h0 => ?_⟩
  · rw [fixL_ok.1]; rcases h with h | h <;> omega
  · have h1 : 3 ≤ t.len ∧ t.len ≤ 258 ∧ 1 ≤ t.dist ∧ t.dist ≤ 32768 := by rcases h with h | h <;> omega
    have h2 := lenSym_bd (n := t.len.toNat) (by omega)
    have h3 := distSym_bd (n := t.dist.toNat) (by omega)
    rw [fixL_ok.1, fixD_ok.1]
    omega
theorem fixL_wt : sumF wtF fixL ≤ 2 ^ 15 := (table_ok fixL_ok.2.2).2.2
theorem fixD_wt : sumF wtF fixD ≤ 2 ^ 15 := (table_ok fixD_ok.2.2).2.2
theorem parse_ok (s : ByteArray) : ∀ t ∈ parse s, TokOk t := by
  have key : ∀ f i, ∀ t ∈ parseN s f i, TokOk t := by
    intro f
    induction f with
    | zero => intro i t h; simp [parseN] at h
    | succ f ih =>
      intro i t h
      rw [parseN] at h
      split at h
      · rcases List.mem_cons.1 h with rfl | h
        · exact may_ok (n := i) tokAt_may
        · exact ih _ t h
      · simp at h
  exact key _ _
theorem parse_len (s : ByteArray) : (parse s).length ≤ s.size := by
  have key : ∀ f i, (parseN s f i).length ≤ f := by
    intro f
    induction f with
    | zero => intro i; simp [parseN]
    | succ f ih =>
      intro i
      rw [parseN]
      split
      · have := ih (i + stepAt s i); simp; omega
      · simp
  exact key _ _
theorem blockB_le {l : List Tok} (ht : ∀ t ∈ l, TokOk t) (last : Bool) : (blockB l 1 last).length ≤ 48 * l.length + 18 := by
  unfold blockB
  rw [if_pos rfl, List.length_append]
  have := bodyB_le fixL_bd fixD_bd ht
  simp [headB, bitsOf_length]
  omega

set_option maxRecDepth 100000 in
set_option maxHeartbeats 3200000 in
theorem block1_any {w0 w : World} {ps : List Piece} {g : Nat} {bs : List Bool} {tv : Value} {l : List Tok} (last : Bool) (ht : Reads w0 ps 3 tv l.length (rows tcell l)) (hs : ∀ t ∈ l, TokOk t) (H : Own w0 w (Wtr g bs :: ps)) (hl : bs.length + 48 * l.length ≤ 35184372070000) :
    Calls Try.prog 23 #[.pointer (some ⟨g, 0, none⟩), tv, .int .i64 1, .bool last] w (Ret fun _ w' => Own w0 w' (Wtr g (bs ++ blockB l 1 last) :: ps)) := by
  obtain ⟨ta, tc, rfl, ht1, ht2⟩ := (ht w H.drop).shape
  have h1 := head_any last 1 (by omega) H (by omega)
  have hB : Hid (bs ++ blockB l 1 last = bs ++ headB last 1 ++ bodyB fixL fixD l) := Lib.hid (by unfold blockB; rw [if_pos rfl, List.append_assoc])
  have hBl : (bs ++ headB last 1).length ≤ bs.length + 3 := by rw [List.length_append]; simp [headB, bitsOf_length]
  rw [hB.out]
  obtain ⟨B, hB2⟩ : ∃ B, Hid (bs ++ headB last 1 = B) := ⟨_, rfl⟩
  rw [hB2.out] at h1 hBl ⊢
  obtain ⟨N, hN⟩ : ∃ N, Hid (l.length = N) := ⟨_, rfl⟩
  have HS := Lib.hid hs
  have H1 := Lib.hid h1
  have HT := Lib.hid ht
  rw [hN.out] at hl ht1 HT ⊢
  clear h1 hs ht
  go_enter Try.func23, Try.ntmps23
  go_wp2_with fail
  refine H1.out.mono ?_
  rintro e w1 ⟨_, rfl, H2⟩
  clear H
  go_wp2_with fail
  refine (fixed_any _).mono ?_
  rintro e w2 ⟨_, rfl, v, u, rfl, H3⟩
  have H := H2.join H3
  clear H2 H3
  obtain ⟨av, cv, rfl, -⟩ := (H.front 1 rfl).rd.shape
  obtain ⟨au, cu, rfl, -⟩ := (H.front 0 rfl).rd.shape
  go_wp2_with fail
  refine (made_any (H.front 1 rfl).rd (by omega) fixL_ok.2.1).mono ?_
  rintro e w3 ⟨_, rfl, vc, rfl, H3⟩
  replace H := H.join H3
  clear H3
  obtain ⟨a5, c5, rfl, -⟩ := (H.front 0 rfl).rd.shape
  go_wp2_with fail
  refine (made_any (H.front 1 rfl).rd (by omega) fixD_ok.2.1).mono ?_
  rintro e w4 ⟨_, rfl, uc, rfl, H3⟩
  replace H := H.join H3
  clear H3
  obtain ⟨a6, c6, rfl, -⟩ := (H.front 0 rfl).rd.shape
  rw [fixL_ok.1, fixD_ok.1] at H
  have H : Own w0 w4 (Wtr g B :: slc 3 1 (.slice a6 32 c6) 32 (nums (codesF fixD)) :: slc 3 1 (.slice a5 288 c5) 288 (nums (codesF fixL)) :: slc 3 1 (.slice au 32 cu) 32 (nums fixD) :: slc 3 1 (.slice av 288 cv) 288 (nums fixL) :: ps) := H.front 4 rfl
  have hL : CodOk w0 (slc 3 1 (.slice a6 32 c6) 32 (nums (codesF fixD)) :: slc 3 1 (.slice a5 288 c5) 288 (nums (codesF fixL)) :: slc 3 1 (.slice au 32 cu) 32 (nums fixD) :: slc 3 1 (.slice av 288 cv) 288 (nums fixL) :: ps) (.slice av 288 cv) (.slice a5 288 c5) fixL := ⟨fun w' h => by rw [fixL_ok.1]; exact (h.front 3 rfl).rd, fun w' h => by rw [fixL_ok.1]; exact (h.front 1 rfl).rd, fixL_bd, fixL_wt, by rw [fixL_ok.1]; omega⟩
  have hD : CodOk w0 (slc 3 1 (.slice a6 32 c6) 32 (nums (codesF fixD)) :: slc 3 1 (.slice a5 288 c5) 288 (nums (codesF fixL)) :: slc 3 1 (.slice au 32 cu) 32 (nums fixD) :: slc 3 1 (.slice av 288 cv) 288 (nums fixL) :: ps) (.slice au 32 cu) (.slice a6 32 c6) fixD := ⟨fun w' h => by rw [fixD_ok.1]; exact (h.front 2 rfl).rd, fun w' h => by rw [fixD_ok.1]; exact h.rd, fixD_bd, fixD_wt, by rw [fixD_ok.1]; omega⟩
  have hb := body_any hL hD (l := l) (tv := .slice ta N tc) (by rw [hN.out]; exact HT.out.mono fun w' h => h.drop.drop.drop.drop) (fun t h => fix_sym (HS.out t h)) (by rw [fixL_ok.1]; omega) H (by rw [hN.out]; omega)
  have HB := Lib.hid hb
  clear hb hL hD
  go_wp2_with fail
  refine HB.out.mono ?_
  rintro e w5 ⟨_, rfl, H5⟩
  go_wp2_with fail
  go_end0
  exact ⟨_, rfl, (((((H5.front 4 rfl).front 4 rfl).front 4 rfl).front 4 rfl).drop.drop.drop.drop)⟩
/-- The text packed by the fixed codes. -/
def simpleF (s : ByteArray) : ByteArray := textOf (blockB (parse s) 1 true)
set_option maxRecDepth 100000 in
theorem simple_any {w : World} (s : ByteArray) (hs : s.size ≤ 1000000) :
    Calls Try.prog 21 #[.string s] w (Ret fun r w' => r = .string (simpleF s) ∧ Own w w' []) := by
  have H := (Own.start w).newWtr
  obtain ⟨T, hT⟩ : ∃ T, Hid (parse s = T) := ⟨_, rfl⟩
  have hok := parse_ok s
  have hlen := parse_len s
  unfold simpleF
  rw [hT.out] at hok hlen ⊢
  have HOK := Lib.hid hok
  clear hok
  go_enter Try.func21, Try.ntmps21
  go_wp2_with fail
  generalize w.alloc _ = w1 at *
  generalize w.heap.size = g at *
  refine (lzparse_any H hs).mono ?_
  rintro e w2 ⟨v, rfl, H2⟩
  rw [hT.out] at H2
  clear H
  obtain ⟨a, c, rfl, -⟩ := H2.rd.shape
  have hb := block1_any (l := T) true (fun w' h => h.rd) HOK.out H2.swap (by simp; omega)
  rw [List.nil_append] at hb
  have HB := Lib.hid hb
  clear hb
  obtain ⟨N, hN⟩ : ∃ N, Hid (T.length = N) := ⟨_, rfl⟩
  rw [hN.out] at HB ⊢
  go_wp2_with fail
  refine HB.out.mono ?_
  rintro e w3 ⟨_, rfl, H3⟩
  clear H2
  go_wp2_with fail
  refine (bytes_any H3).mono ?_
  rintro e w4 ⟨rfl, rfl⟩
  go_wp2_with fail
  go_ret
  exact ⟨_, rfl, rfl, H3.bare⟩
end Go.Proofs.Yteoecchggjmffaa
/- flate: the document's tables, plainly. No program in sight. -/
namespace Go.Proofs.Yteoecchggjmffaa

/-- The last of the first k that is not above. -/
def lastI (T : List (Nat × Nat)) (n : Nat) : Nat → Nat
  | 0 => 0
  | k + 1 => if (T.getD k (0, 0)).1 ≤ n then k else lastI T n k
theorem lastI_le (T : List (Nat × Nat)) (n : Nat) : ∀ k, lastI T n k ≤ k - 1 := by
  intro k
  induction k with
  | zero => simp [lastI]
  | succ k ih =>
    rw [lastI]
    split <;> omega
theorem findT_snoc (n : Nat) (x : Nat × Nat) : ∀ (T : List (Nat × Nat)) (i : Nat) (r : Nat × Nat × Nat), findT n (T ++ [x]) i r = if x.1 ≤ n then (i + T.length, x.2, n - x.1) else findT n T i r
  | [], i, r => by simp [findT]
  | (a, k) :: T, i, r => by
    rw [List.cons_append, findT, findT_snoc n x T, findT]
    split
    · rw [List.length_cons, show i + 1 + T.length = i + (T.length + 1) by omega]
    · rfl
theorem findT_last {T : List (Nat × Nat)} {n : Nat} (h0 : (T.getD 0 (0, 0)).1 ≤ n) (i : Nat) (r : Nat × Nat × Nat) : ∀ k, 1 ≤ k → k ≤ T.length →
    findT n (T.take k) i r = (i + lastI T n k, (T.getD (lastI T n k) (0, 0)).2, n - (T.getD (lastI T n k) (0, 0)).1) := by
  intro k
  induction k with
  | zero => intro h; omega
  | succ k ih =>
    intro _ hk
    have hg : T[k]? = some (T.getD k (0, 0)) := by rw [List.getD_eq_getElem?_getD, List.getElem?_eq_getElem (by omega)]; rfl
    rw [List.take_add_one, hg, Option.toList_some, findT_snoc, lastI, List.length_take, Nat.min_eq_left (by omega)]
    split
    · rfl
    · next h =>
      have hk0 : 1 ≤ k := by
        rcases Nat.eq_zero_or_pos k with e | e
        · subst e; exact absurd h0 h
        · exact e
      exact ih hk0 (by omega)
theorem refLen_last {n : Nat} (h : 3 ≤ n) : refLen n = (257 + lastI lensT n 29, (lensT.getD (lastI lensT n 29) (0, 0)).2, n - (lensT.getD (lastI lensT n 29) (0, 0)).1) := by
  have := findT_last (T := lensT) (n := n) h 257 (257, 0, 0) 29 (by omega) (by decide)
  exact this
theorem refDist_last {n : Nat} (h : 1 ≤ n) : refDist n = (lastI distsT n 30, (distsT.getD (lastI distsT n 30) (0, 0)).2, n - (distsT.getD (lastI distsT n 30) (0, 0)).1) := by
  have := findT_last (T := distsT) (n := n) h 0 (0, 0, 0) 30 (by omega) (by decide)
  rw [Nat.zero_add] at this
  exact this
def fsts (T : List (Nat × Nat)) : List Int := T.map fun p => (p.1 : Int)
def snds (T : List (Nat × Nat)) : List Int := T.map fun p => (p.2 : Int)
theorem fsts_getD (T : List (Nat × Nat)) (k : Nat) : (fsts T).getD k 0 = ((T.getD k (0, 0)).1 : Int) := by
  unfold fsts
  rw [List.getD_eq_getElem?_getD, List.getElem?_map, List.getD_eq_getElem?_getD]
  cases T[k]? <;> rfl
theorem snds_getD (T : List (Nat × Nat)) (k : Nat) : (snds T).getD k 0 = ((T.getD k (0, 0)).2 : Int) := by
  unfold snds
  rw [List.getD_eq_getElem?_getD, List.getElem?_map, List.getD_eq_getElem?_getD]
  cases T[k]? <;> rfl
def lenF (i : Nat) : Nat := [3, 4, 5, 6, 7, 8, 9, 10, 11, 13, 15, 17, 19, 23, 27, 31, 35, 43, 51, 59, 67, 83, 99, 115, 131, 163, 195, 227, 259].getD i 0
def lenM (i : Nat) : Nat := (lensT.getD i (0, 0)).2
def disF (i : Nat) : Nat := [1, 2, 3, 4, 5, 7, 9, 13, 17, 25, 33, 49, 65, 97, 129, 193, 257, 385, 513, 769, 1025, 1537, 2049, 3073, 4097, 6145, 8193, 12289, 16385, 24577, 32769].getD i 0
def disM (i : Nat) : Nat := (distsT.getD i (0, 0)).2
theorem len_step : ∀ i : Fin 28, lenF (i.1 + 1) = lenF i.1 + 2 ^ lenM i.1 ∧ lenM i.1 = (if i.1 < 8 then 0 else (i.1 - 4) / 4) ∧ lenF i.1 ≤ 300 ∧ lenM i.1 ≤ 5 ∧ (lensT.getD i.1 (0, 0)).1 = lenF i.1 := by decide +kernel
theorem dis_step : ∀ i : Fin 30, disF (i.1 + 1) = disF i.1 + 2 ^ disM i.1 ∧ disM i.1 = (if i.1 < 4 then 0 else (i.1 - 2) / 2) ∧ disF i.1 ≤ 33000 ∧ disM i.1 ≤ 13 ∧ (distsT.getD i.1 (0, 0)).1 = disF i.1 := by decide +kernel
def lenFs (k : Nat) : List Int := (fsts lensT).take k
def lenMs (k : Nat) : List Int := (snds lensT).take k
def disFs (k : Nat) : List Int := (fsts distsT).take k
def disMs (k : Nat) : List Int := (snds distsT).take k
theorem take_snoc {F : List Int} {k : Nat} (h : k < F.length) : F.take (k + 1) = F.take k ++ [F.getD k 0] := by
  rw [List.take_add_one, getD_get h]; rfl
theorem lenFs_succ {k : Nat} (h : k < 28) : lenFs (k + 1) = lenFs k ++ [(lenF k : Int)] := by
  unfold lenFs; rw [take_snoc (by simp only [fsts, List.length_map]; show k < 29; omega), fsts_getD, (len_step ⟨k, h⟩).2.2.2.2]
theorem lenMs_succ {k : Nat} (h : k < 28) : lenMs (k + 1) = lenMs k ++ [(lenM k : Int)] := by
  unfold lenMs; rw [take_snoc (by simp only [snds, List.length_map]; show k < 29; omega), snds_getD]; rfl
theorem disFs_succ {k : Nat} (h : k < 30) : disFs (k + 1) = disFs k ++ [(disF k : Int)] := by
  unfold disFs; rw [take_snoc (by simp only [fsts, List.length_map]; show k < 30; omega), fsts_getD, (dis_step ⟨k, h⟩).2.2.2.2]
theorem disMs_succ {k : Nat} (h : k < 30) : disMs (k + 1) = disMs k ++ [(disM k : Int)] := by
  unfold disMs; rw [take_snoc (by simp only [snds, List.length_map]; show k < 30; omega), snds_getD]; rfl
end Go.Proofs.Yteoecchggjmffaa
/- flate: the walks of the document's tables. -/
namespace Go.Proofs.Yteoecchggjmffaa
open Go.RowKit

set_option maxRecDepth 100000 in
set_option maxHeartbeats 1600000 in
theorem rlens_any (w : World) : Calls Try.prog 30 #[] w (Ret fun r w' => ∃ v u, r = .tuple #[v, u] ∧ Own w w' [slc 3 1 v 29 (nums (fsts lensT)), slc 3 1 u 29 (nums (snds lensT))]) := by
  have H := ((Own.start w).nil 3 1).nil 3 1
  go_enter Try.func30, Try.ntmps30
  go_wp2_with fail
  go_loopw [2, 3, 4, 5] (fun s2 s3 s4 s5 wx => ∃ k : Nat, s5 = .int .i64 (257 + (k : Int)) ∧ k ≤ 28 ∧ s4 = .int .i64 (lenF k) ∧ Own w wx [slc 3 1 s2 k (nums (lenFs k)), slc 3 1 s3 k (nums (lenMs k))]) (fun _ _ _ s5 _ => 285 - (intOf s5).toNat)
  case atStart => exact ⟨0, by go_num, by omega, by go_num, H⟩
  case round =>
    clear H
    obtain ⟨k, rfl, hk, rfl, H⟩ := hrel
    obtain ⟨a2, c2, rfl, -⟩ := H.rd.shape
    obtain ⟨a3, c3, rfl, -⟩ := (H.front 1 rfl).rd.shape
    by_cases hlt : k < 28
    · have hI : 257 + (k : Int) < 285 := by omega
      obtain ⟨h1, h2, h3, h4, -⟩ := len_step ⟨k, hlt⟩
      simp only at h1 h2 h3 h4
      have hF := Lib.hid (lenFs_succ hlt)
      have hM := Lib.hid (lenMs_succ hlt)
      obtain ⟨x, hx⟩ : ∃ x, Hid (lenF k = x) := ⟨_, rfl⟩
      obtain ⟨y, hy⟩ : ∃ y, Hid (lenM k = y) := ⟨_, rfl⟩
      obtain ⟨z, hz⟩ : ∃ z, Hid (lenF (k + 1) = z) := ⟨_, rfl⟩
      rw [hz.out, hx.out, hy.out] at h1
      rw [hx.out] at h3 ⊢
      rw [hy.out] at h2 h4
      rw [hx.out] at hF
      rw [hy.out] at hM
      have HF := Lib.hid (show nums (lenFs k) ++ [.int .i64 (x : Int)] = nums (lenFs (k + 1)) by rw [hF.out]; simp [nums])
      have HM := Lib.hid (show nums (lenMs k) ++ [.int .i64 (y : Int)] = nums (lenMs (k + 1)) by rw [hM.out]; simp [nums])
      clear hF hM
      have hsw : IntKind.i64.wrap (257 + (k : Int) + 1) = 257 + (k : Int) + 1 := IntWalk.i64_in _ ⟨by omega, by omega⟩
      have hp : (2 : Int) ^ y = ((2 ^ y : Nat) : Int) := by rw [Int.natCast_pow]; rfl
      obtain ⟨p, hpp⟩ : ∃ p, 2 ^ y = p := ⟨_, rfl⟩
      rw [hpp] at hp h1
      have hy13 : y ≤ 13 := by omega
      have hpb : p ≤ 8192 := by rw [← hpp]; exact Nat.pow_le_pow_right (n := 2) (by omega) hy13
      have hpw : IntKind.i64.wrap (2 ^ y) = (p : Int) := by rw [hp]; exact IntWalk.i64_in _ ⟨by omega, by omega⟩
      have hxp : IntKind.i64.wrap ((x : Int) + (p : Int)) = (z : Int) := by rw [h1, Int.natCast_add]; exact IntWalk.i64_in _ ⟨by omega, by omega⟩
      have hy63 : (y : Int) < 64 := by omega
      clear hpp
      by_cases h8 : k < 8
      case' pos =>
        rw [if_pos h8] at h2
        subst h2
        rw [show ((0 : Nat) : Int) = 0 from rfl] at HM
        have h8I : ¬ 265 ≤ 257 + (k : Int) := by omega
      case' neg =>
        rw [if_neg h8] at h2
        have h8I : 265 ≤ 257 + (k : Int) := by omega
        have hsb : IntKind.i64.wrap (257 + (k : Int) - 261) = 257 + (k : Int) - 261 := IntWalk.i64_in _ ⟨by omega, by omega⟩
        have hdv : (257 + (k : Int) - 261) / 4 = (y : Int) := by omega
        have hdv2 : (257 + (k : Int) - 261).tdiv 4 = (y : Int) := by rw [Int.tdiv_eq_ediv_of_nonneg (by omega)]; exact hdv
        clear h2
      all_goals
        clear h1
        go_upto_region 11 with (first
          | (at_builtin; refine wpList_append_one rfl _ _ rfl Try.underlying26 intInfo rfl (by decide) rfl H (news := [.int .i64 (x : Int)]) rfl rfl rfl (by simp [Value.oneCell']) (by omega) (by omega) ?_; clear H; intro v' w' H; rw [HF.out] at H; obtain ⟨a4, c4, rfl, -⟩ := H.rd.shape)
          | (at_builtin; refine wpList_append_one rfl _ _ rfl Try.underlying26 intInfo rfl (by decide) rfl H.swap (news := [.int .i64 0]) rfl rfl rfl (by simp [Value.oneCell']) (by omega) (by omega) ?_; clear H; intro v' w' H; rw [HM.out] at H; replace H := H.swap; obtain ⟨a5, c5, rfl, -⟩ := (H.front 1 rfl).rd.shape)
          | (at_builtin; refine wpList_append_one rfl _ _ rfl Try.underlying26 intInfo rfl (by decide) rfl H.swap (news := [.int .i64 (y : Int)]) rfl rfl rfl (by simp [Value.oneCell']) (by omega) (by omega) ?_; clear H; intro v' w' H; rw [HM.out] at H; replace H := H.swap; obtain ⟨a5, c5, rfl, -⟩ := (H.front 1 rfl).rd.shape))
        clear HF HM
        go_wp2_with fail
        go_roundw
        case rel => exact ⟨k + 1, by go_num, by omega, by rw [hz.out], H⟩
        case measure => simp [intOf]; omega
    · obtain rfl : k = 28 := by omega
      have hI : ¬ 257 + ((28 : Nat) : Int) < 285 := by omega
      have HF := Lib.hid (show nums (lenFs 28) ++ [.int .i64 258] = nums (fsts lensT) from rfl)
      have HM := Lib.hid (show nums (lenMs 28) ++ [.int .i64 0] = nums (snds lensT) from rfl)
      go_wp2_with (first
        | (at_builtin; refine wpList_append_one rfl _ _ rfl Try.underlying26 intInfo rfl (by decide) rfl H (news := [.int .i64 258]) rfl rfl rfl (by simp [Value.oneCell']) (by omega) (by omega) ?_; clear H; intro v' w' H; rw [HF.out] at H; obtain ⟨a4, c4, rfl, -⟩ := H.rd.shape)
        | (at_builtin; refine wpList_append_one rfl _ _ rfl Try.underlying26 intInfo rfl (by decide) rfl H.swap (news := [.int .i64 0]) rfl rfl rfl (by simp [Value.oneCell']) (by omega) (by omega) ?_; clear H; intro v' w' H; rw [HM.out] at H; replace H := H.swap; obtain ⟨a5, c5, rfl, -⟩ := (H.front 1 rfl).rd.shape))
      go_ret2
      exact ⟨_, rfl, _, _, rfl, H⟩
set_option maxRecDepth 100000 in
set_option maxHeartbeats 1600000 in
theorem rdists_any (w : World) : Calls Try.prog 32 #[] w (Ret fun r w' => ∃ v u, r = .tuple #[v, u] ∧ Own w w' [slc 3 1 v 30 (nums (fsts distsT)), slc 3 1 u 30 (nums (snds distsT))]) := by
  have H := ((Own.start w).nil 3 1).nil 3 1
  go_enter Try.func32, Try.ntmps32
  go_wp2_with fail
  go_loopw [2, 3, 4, 5] (fun s2 s3 s4 s5 wx => ∃ k : Nat, s5 = .int .i64 ((k : Int)) ∧ k ≤ 30 ∧ s4 = .int .i64 (disF k) ∧ Own w wx [slc 3 1 s2 k (nums (disFs k)), slc 3 1 s3 k (nums (disMs k))]) (fun _ _ _ s5 _ => 30 - (intOf s5).toNat)
  case atStart => exact ⟨0, by go_num, by omega, by go_num, H⟩
  case round =>
    clear H
    obtain ⟨k, rfl, hk, rfl, H⟩ := hrel
    obtain ⟨a2, c2, rfl, -⟩ := H.rd.shape
    obtain ⟨a3, c3, rfl, -⟩ := (H.front 1 rfl).rd.shape
    by_cases hlt : k < 30
    · have hI : (k : Int) < 30 := by omega
      obtain ⟨h1, h2, h3, h4, -⟩ := dis_step ⟨k, hlt⟩
      simp only at h1 h2 h3 h4
      have hF := Lib.hid (disFs_succ hlt)
      have hM := Lib.hid (disMs_succ hlt)
      obtain ⟨x, hx⟩ : ∃ x, Hid (disF k = x) := ⟨_, rfl⟩
      obtain ⟨y, hy⟩ : ∃ y, Hid (disM k = y) := ⟨_, rfl⟩
      obtain ⟨z, hz⟩ : ∃ z, Hid (disF (k + 1) = z) := ⟨_, rfl⟩
      rw [hz.out, hx.out, hy.out] at h1
      rw [hx.out] at h3 ⊢
      rw [hy.out] at h2 h4
      rw [hx.out] at hF
      rw [hy.out] at hM
      have HF := Lib.hid (show nums (disFs k) ++ [.int .i64 (x : Int)] = nums (disFs (k + 1)) by rw [hF.out]; simp [nums])
      have HM := Lib.hid (show nums (disMs k) ++ [.int .i64 (y : Int)] = nums (disMs (k + 1)) by rw [hM.out]; simp [nums])
      clear hF hM
      have hsw : IntKind.i64.wrap ((k : Int) + 1) = (k : Int) + 1 := IntWalk.i64_in _ ⟨by omega, by omega⟩
      have hp : (2 : Int) ^ y = ((2 ^ y : Nat) : Int) := by rw [Int.natCast_pow]; rfl
      obtain ⟨p, hpp⟩ : ∃ p, 2 ^ y = p := ⟨_, rfl⟩
      rw [hpp] at hp h1
      have hy13 : y ≤ 13 := by omega
      have hpb : p ≤ 8192 := by rw [← hpp]; exact Nat.pow_le_pow_right (n := 2) (by omega) hy13
      have hpw : IntKind.i64.wrap (2 ^ y) = (p : Int) := by rw [hp]; exact IntWalk.i64_in _ ⟨by omega, by omega⟩
      have hxp : IntKind.i64.wrap ((x : Int) + (p : Int)) = (z : Int) := by rw [h1, Int.natCast_add]; exact IntWalk.i64_in _ ⟨by omega, by omega⟩
      have hy63 : (y : Int) < 64 := by omega
      clear hpp
      by_cases h8 : k < 4
      case' pos =>
        rw [if_pos h8] at h2
        subst h2
        rw [show ((0 : Nat) : Int) = 0 from rfl] at HM
        have h8I : ¬ 4 ≤ (k : Int) := by omega
      case' neg =>
        rw [if_neg h8] at h2
        have h8I : 4 ≤ (k : Int) := by omega
        have hsb : IntKind.i64.wrap ((k : Int) - 2) = (k : Int) - 2 := IntWalk.i64_in _ ⟨by omega, by omega⟩
        have hdv : ((k : Int) - 2) / 2 = (y : Int) := by omega
        have hdv2 : ((k : Int) - 2).tdiv 2 = (y : Int) := by rw [Int.tdiv_eq_ediv_of_nonneg (by omega)]; exact hdv
        clear h2
      all_goals
        clear h1
        go_upto_region 11 with (first
          | (at_builtin; refine wpList_append_one rfl _ _ rfl Try.underlying26 intInfo rfl (by decide) rfl H (news := [.int .i64 (x : Int)]) rfl rfl rfl (by simp [Value.oneCell']) (by omega) (by omega) ?_; clear H; intro v' w' H; rw [HF.out] at H; obtain ⟨a4, c4, rfl, -⟩ := H.rd.shape)
          | (at_builtin; refine wpList_append_one rfl _ _ rfl Try.underlying26 intInfo rfl (by decide) rfl H.swap (news := [.int .i64 0]) rfl rfl rfl (by simp [Value.oneCell']) (by omega) (by omega) ?_; clear H; intro v' w' H; rw [HM.out] at H; replace H := H.swap; obtain ⟨a5, c5, rfl, -⟩ := (H.front 1 rfl).rd.shape)
          | (at_builtin; refine wpList_append_one rfl _ _ rfl Try.underlying26 intInfo rfl (by decide) rfl H.swap (news := [.int .i64 (y : Int)]) rfl rfl rfl (by simp [Value.oneCell']) (by omega) (by omega) ?_; clear H; intro v' w' H; rw [HM.out] at H; replace H := H.swap; obtain ⟨a5, c5, rfl, -⟩ := (H.front 1 rfl).rd.shape))
        clear HF HM
        go_wp2_with fail
        go_roundw
        case rel => exact ⟨k + 1, by go_num, by omega, by rw [hz.out], H⟩
        case measure => simp [intOf]; omega
    · obtain rfl : k = 30 := by omega
      have hI : ¬ ((30 : Nat) : Int) < 30 := by omega
      go_wp2_with fail
      go_ret2
      exact ⟨_, rfl, _, _, rfl, H⟩

theorem len_tabs : (fsts lensT).length = 29 ∧ (snds lensT).length = 29 ∧ (fsts distsT).length = 30 ∧ (snds distsT).length = 30 := ⟨rfl, rfl, rfl, rfl⟩
set_option maxRecDepth 100000 in
set_option maxHeartbeats 1600000 in
theorem rfind_any {w : World} {v u : Value} (T : List (Nat × Nat)) {m : Nat} (n : Nat) (hv : Rd w 1 v m (nums (fsts T))) (hu : Rd w 1 u m (nums (snds T))) (hm : 1 ≤ m) (hm2 : m ≤ 100) (hn : n ≤ 1000000) (hb : ∀ k, k < m → (T.getD k (0, 0)).1 ≤ 100000) (h0 : (T.getD 0 (0, 0)).1 ≤ n) :
    Calls Try.prog 31 #[v, u, .int .i64 n] w (Ret fun r w' => r = .tuple #[.int .i64 (lastI T n m), .int .i64 (T.getD (lastI T n m) (0, 0)).2, .int .i64 ((n - (T.getD (lastI T n m) (0, 0)).1 : Nat) : Int)] ∧ Own w w' []) := by
  have H := Own.start w
  obtain ⟨b1, b2, b3, hB⟩ : ∃ b1 b2 b3, Hid (lastI T n m = b1 ∧ (T.getD (lastI T n m) (0, 0)).2 = b2 ∧ n - (T.getD (lastI T n m) (0, 0)).1 = b3) := ⟨_, _, _, rfl, rfl, rfl⟩
  rw [hB.out.1, ← hB.out.1, hB.out.2.1, hB.out.2.2, hB.out.1]
  obtain ⟨va, vc, rfl, hvc1, hvc2⟩ := hv.shape
  obtain ⟨ua, uc, rfl, huc1, huc2⟩ := hu.shape
  have HV := Lib.hid hv
  have HU := Lib.hid hu
  have HB := Lib.hid hb
  have H00 := Lib.hid h0
  clear hv hu hb h0
  go_enter Try.func31, Try.ntmps31
  go_wp2_with fail
  go_loopw [9, 10] (fun s9 s10 wx => ∃ k s : Nat, s10 = .int .i64 k ∧ k ≤ m ∧ s9 = .int .i64 s ∧ s < m ∧ Hid (lastI T n k = s) ∧ Own w wx []) (fun _ s10 _ => m - (intOf s10).toNat)
  case atStart => exact ⟨0, 0, by go_num, by omega, by go_num, by omega, Lib.hid rfl, H⟩
  case round =>
    clear H
    obtain ⟨k, s, rfl, hk, rfl, hsm, hs, H⟩ := hrel
    by_cases hlt : k < m
    · have hI : (k : Int) < (m : Int) := by omega
      obtain ⟨b, o, rfl, c1⟩ := rd_at HV.out H hlt
      rw [fsts_getD] at c1
      have hs2 : lastI T n (k + 1) = if (T.getD k (0, 0)).1 ≤ n then k else lastI T n k := rfl
      rw [hs.out] at hs2
      obtain ⟨x, hx⟩ : ∃ x, (T.getD k (0, 0)).1 = x := ⟨_, rfl⟩
      rw [hx] at hs2 c1
      clear hx
      by_cases hxn : x ≤ n
      · have hxI : (x : Int) ≤ (n : Int) := by omega
        rw [if_pos hxn] at hs2
        have HS := Lib.hid hs2
        clear hs2
        go_wp2_with fail
        go_roundw
        case rel => exact ⟨k + 1, k, by go_num, by omega, by go_num, by omega, HS, H⟩
        case measure => simp [intOf]; omega
      · have hxI : ¬ (x : Int) ≤ (n : Int) := by omega
        rw [if_neg hxn] at hs2
        have HS := Lib.hid hs2
        clear hs2
        go_wp2_with fail
        go_roundw
        case rel => exact ⟨k + 1, s, by go_num, by omega, by go_num, by omega, HS, H⟩
        case measure => simp [intOf]; omega
    · have hI : ¬ (k : Int) < (m : Int) := by omega
      obtain rfl : k = m := by omega
      obtain ⟨hb1, hb2, hb3⟩ := hB.out
      rw [hs.out] at hb1 hb2 hb3
      obtain ⟨b, o, rfl, c1⟩ := rd_at HV.out (Own.start w) hsm
      obtain ⟨b', o', rfl, c2⟩ := rd_at HU.out (Own.start w) hsm
      rw [fsts_getD] at c1
      rw [snds_getD, hb2] at c2
      have hf := HB.out s hsm
      have hle : (T.getD s (0, 0)).1 ≤ n := by
        rw [← hs.out]
        have key : ∀ k, (T.getD (lastI T n k) (0, 0)).1 ≤ n := by
          intro k
          induction k with
          | zero => exact H00.out
          | succ k ih =>
            rw [lastI]
            split
            · next h => exact h
            · exact ih
        exact key _
      obtain ⟨x, hx⟩ : ∃ x, (T.getD s (0, 0)).1 = x := ⟨_, rfl⟩
      rw [hx] at hb3 c1 hf hle
      subst hb1
      have hsb : IntKind.i64.wrap ((n : Int) - (x : Int)) = (b3 : Int) := by rw [← hb3, Int.natCast_sub hle]; exact IntWalk.i64_in _ ⟨by omega, by omega⟩
      have HC := Lib.hid (fun (w1 : World) (h : Own w w1 []) => And.intro ((h.oldCell (World.block_lt_of_cell? _ _ c1)).trans c1) ((h.oldCell (World.block_lt_of_cell? _ _ c2)).trans c2))
      clear hx hb2 hb3 c1 c2
      go_upto_region 7 with (fail)
      refine wp_region_calm (fun w1 => Own w w1 []) 13 (by kernel_rfl) (by kernel_rfl) H.drew ?_
      simp only [List.take_succ_cons, List.take_zero, List.drop_succ_cons, List.drop_zero]
      repeat
        first
        | (refine calm_value (v := ?_) (by decide) rfl (fun σ w1 hS => ?_) ?_
           rotate_left
           · obtain ⟨c1, c2⟩ := HC.out _ hS
             first | (go_simp; rfl) | rfl
           simp only [Act.put, List.setIfInBounds_toArray, List.set_cons_zero, List.set_cons_succ])
        | (refine calm_skip (by decide) rfl ?_
           simp only [Act.put, List.setIfInBounds_toArray, List.set_cons_zero, List.set_cons_succ])
      refine calm_nil ?_
      intro wd HD
      clear H
      go_wp2_with fail
      go_ret3
      exact ⟨_, rfl, rfl, HD⟩

theorem rlength_any (n : Nat) (hn : 3 ≤ n) (hn2 : n ≤ 258) (w : World) :
    Calls Try.prog 11 #[.int .i64 n] w (Ret fun r w' => r = .tuple #[.int .i64 (lenSym n).1, .int .i64 (lenSym n).2.1, .int .i64 (lenSym n).2.2] ∧ Own w w' []) := by
  rw [len_same' n ⟨hn, hn2⟩, refLen_last hn]
  have H := Own.start w
  have hle := lastI_le lensT n 29
  have hf := fun (w : World) (v u : Value) (hv : Rd w 1 v 29 (nums (fsts lensT))) (hu : Rd w 1 u 29 (nums (snds lensT))) => rfind_any lensT n hv hu (by omega) (by omega) (by omega) (fun k hk => (show ∀ k : Fin 29, (lensT.getD k.1 (0, 0)).1 ≤ 100000 by decide) ⟨k, hk⟩) hn
  obtain ⟨b1, b2, b3, hB⟩ : ∃ b1 b2 b3, Hid (lastI lensT n 29 = b1 ∧ (lensT.getD (lastI lensT n 29) (0, 0)).2 = b2 ∧ n - (lensT.getD (lastI lensT n 29) (0, 0)).1 = b3) := ⟨_, _, _, rfl, rfl, rfl⟩
  simp only
  rw [hB.out.2.1, hB.out.2.2] at hf ⊢
  rw [hB.out.1] at hf hle ⊢
  have HF := Lib.hid hf
  have hw : IntKind.i64.wrap (257 + (b1 : Int)) = 257 + (b1 : Int) := IntWalk.i64_in _ ⟨by omega, by omega⟩
  clear hf hB
  go_enter Try.func11, Try.ntmps11
  go_wp2_with fail
  refine (rlens_any _).mono ?_
  rintro e w2 ⟨_, rfl, v, u, rfl, H2⟩
  have H := H.join H2
  obtain ⟨av, cv, rfl, -⟩ := H.rd.shape
  obtain ⟨au, cu, rfl, -⟩ := (H.front 1 rfl).rd.shape
  clear H2
  go_wp2_with fail
  refine (HF.out _ _ _ H.rd (H.front 1 rfl).rd).mono ?_
  rintro e w3 ⟨_, rfl, rfl, H2⟩
  have H := H.bare.join H2
  go_wp2_with fail
  go_ret3
  exact ⟨_, rfl, rfl, H⟩
theorem rdist_any (n : Nat) (hn : 1 ≤ n) (hn2 : n ≤ 32768) (w : World) :
    Calls Try.prog 13 #[.int .i64 n] w (Ret fun r w' => r = .tuple #[.int .i64 (distSym n).1, .int .i64 (distSym n).2.1, .int .i64 (distSym n).2.2] ∧ Own w w' []) := by
  rw [dist_same' n ⟨hn, hn2⟩, refDist_last hn]
  have H := Own.start w
  have hf := fun (w : World) (v u : Value) (hv : Rd w 1 v 30 (nums (fsts distsT))) (hu : Rd w 1 u 30 (nums (snds distsT))) => rfind_any distsT n hv hu (by omega) (by omega) (by omega) (fun k hk => (show ∀ k : Fin 30, (distsT.getD k.1 (0, 0)).1 ≤ 100000 by decide) ⟨k, hk⟩) hn
  have HF := Lib.hid hf
  clear hf
  obtain ⟨b1, b2, b3, hB⟩ : ∃ b1 b2 b3 : Nat, Hid (lastI distsT n 30 = b1 ∧ (distsT.getD (lastI distsT n 30) (0, 0)).2 = b2 ∧ n - (distsT.getD (lastI distsT n 30) (0, 0)).1 = b3) := ⟨_, _, _, rfl, rfl, rfl⟩
  go_enter Try.func13, Try.ntmps13
  go_wp2_with fail
  refine (rdists_any _).mono ?_
  rintro e w2 ⟨_, rfl, v, u, rfl, H2⟩
  have H := H.join H2
  obtain ⟨av, cv, rfl, -⟩ := H.rd.shape
  obtain ⟨au, cu, rfl, -⟩ := (H.front 1 rfl).rd.shape
  clear H2
  go_wp2_with fail
  refine (HF.out _ _ _ H.rd (H.front 1 rfl).rd).mono ?_
  rintro e w3 ⟨_, rfl, rfl, H2⟩
  have H := H.bare.join H2
  simp only
  rw [hB.out.2.1, hB.out.2.2, hB.out.1]
  go_wp2_with fail
  go_ret3
  exact ⟨_, rfl, by rw [← hB.out.2.1, ← hB.out.2.2, ← hB.out.1]; rfl, H⟩

end Go.Proofs.Yteoecchggjmffaa
/- The reference's Same: the walk. -/
namespace Go.Proofs.Yteoecchggjmffaa
open Go.RowKit

set_option maxHeartbeats 800000 in
theorem same_any (a b : List Int) {va vb : Value} (w : World) (ha : Rd w 1 va a.length (nums a)) (hb : Rd w 1 vb b.length (nums b)) :
    Calls Try.prog 17 #[va, vb] w (Ret fun v w' => v = .bool (decide (a = b)) ∧ Own w w' []) := by
  obtain ⟨ao, ca, rfl, ha1, ha2⟩ := ha.shape
  obtain ⟨bo, cb, rfl, hb1, hb2⟩ := hb.shape
  go_enter Try.func17, Try.ntmps17
  by_cases hl : a.length = b.length
  · obtain ⟨n, hn⟩ : ∃ n, Hid (a.length = n) := ⟨_, rfl⟩
    have hn' : Hid (b.length = n) := Lib.hid (by rw [← hl, hn.out])
    clear hl
    rw [hn.out] at ha ha1 ⊢
    rw [hn'.out] at hb hb1 ⊢
    go_wp2_with fail
    go_loopw [5] (fun i wr => ∃ k : Nat, k ≤ n ∧ i = .int .i64 k ∧ Hid (a.take k = b.take k) ∧ Own w wr []) (fun i _ => n - (intOf i).toNat)
    case atStart => exact ⟨0, Nat.zero_le _, rfl, Lib.hid rfl, Own.start w⟩
    case round =>
      obtain ⟨k, hk, rfl, ht, H⟩ := hrel
      by_cases hlt : k < n
      · obtain ⟨x, hx⟩ := get_of_lt (l := a) (k := k) (by rw [hn.out]; exact hlt)
        obtain ⟨y, hy⟩ := get_of_lt (l := b) (k := k) (by rw [hn'.out]; exact hlt)
        have hiff := Lib.hid (take_eq_succ hx hy)
        obtain ⟨ba, oa, _, e, _⟩ := ha.some (by rw [nums_length, hn.out]; omega)
        cases e
        obtain ⟨bb, ob, _, e, _⟩ := hb.some (by rw [nums_length, hn'.out]; omega)
        cases e
        have HX := Lib.hid (nums_get hx)
        have HY := Lib.hid (nums_get hy)
        have hlx := (List.getElem?_eq_some_iff.1 hx).1
        have hly := (List.getElem?_eq_some_iff.1 hy).1
        clear hx hy
        obtain ⟨t, htt⟩ : ∃ t, (x != y) = t := ⟨_, rfl⟩
        have hte : Hid (t = !decide (x = y)) := Lib.hid (by rw [← htt]; by_cases h : x = y <;> simp [h])
        go_upto_region 6 with (fail)
        refine wp_region_calm (fun w1 => Own w w1 []) 9 (by kernel_rfl) (by kernel_rfl) H.drew ?_
        simp only [List.take_succ_cons, List.take_zero, List.drop_succ_cons, List.drop_zero]
        repeat
          refine calm_value (v := ?_) (by decide) rfl (fun σ w1 hS => ?_) ?_; rotate_left
          · have c0 := (ha.old hS).cell HX.out
            have c1 := (hb.old hS).cell HY.out
            first | (go_simp; rfl) | rfl
          simp only [Act.put, List.setIfInBounds_toArray, List.set_cons_zero, List.set_cons_succ]
        refine calm_nil ?_
        intro wd HD
        clear H
        clear htt
        cases t with
        | true =>
          have hne : Hid (decide (a = b) = false) := Lib.hid (by
            simp only [decide_eq_false_iff_not]
            rintro rfl
            have := hte.out
            rw [(hiff.out.1 rfl).2] at this
            simp at this)
          go_wp2
          go_ret
          exact ⟨_, rfl, by rw [hne.out]; rfl, HD⟩
        | false =>
          have ht2 : Hid (a.take (k + 1) = b.take (k + 1)) := Lib.hid (hiff.out.2 ⟨ht.out, by have := hte.out; simpa using this.symm⟩)
          go_wp2
          go_round
          case rel => exact ⟨k + 1, by omega, by go_num, ht2, HD⟩
          case measure => simp [intOf]; omega
      · obtain rfl : k = n := by omega
        have heq : Hid (decide (a = b) = true) := Lib.hid (by
          simp only [decide_eq_true_eq]
          have := ht.out
          rwa [List.take_of_length_le (by rw [hn.out]; exact Nat.le_refl _), List.take_of_length_le (by rw [hn'.out]; exact Nat.le_refl _)] at this)
        go_wp2
        go_ret
        exact ⟨_, rfl, by rw [heq.out]; rfl, H⟩
  · have hne : Hid (decide (a = b) = false) := Lib.hid (by simp only [decide_eq_false_iff_not]; rintro rfl; exact hl rfl)
    have h1 : ((a.length : Int) == (b.length : Int)) = false := by simp; omega
    clear hl
    go_wp2
    go_ret
    exact ⟨_, rfl, by rw [hne.out]; rfl, Own.start w⟩
end Go.Proofs.Yteoecchggjmffaa
/- huff: the walk of the document's Weight. -/
namespace Go.Proofs.Yteoecchggjmffaa
open Go.RowKit

set_option maxHeartbeats 800000 in
theorem rweight_any {w : World} {v : Value} {n : Nat} {F : List Int} (hr : Rd w 1 v n (nums F)) (hn : n ≤ 1000000) (hF : ∀ x ∈ F, 0 ≤ x ∧ x ≤ 15) :
    Calls Try.prog 69 #[v] w (Ret fun r w' => r = .int .i64 (sumF wtF F) ∧ Own w w' []) := by
  have hl := Lib.hid (rd_len hr)
  obtain ⟨a, c, rfl, hc1, hc2⟩ := hr.shape
  have HR := Lib.hid hr
  have HF := Lib.hid hF
  have H := Own.start w
  obtain ⟨Z, hZ⟩ : ∃ Z, Hid (sumF wtF F = Z) := ⟨_, rfl⟩
  rw [hZ.out]
  clear hr hF
  go_enter Try.func69, Try.ntmps69
  go_wp2_with fail
  go_loopw [3, 4] (fun s3 s4 wx => ∃ i : Nat, s4 = .int .i64 i ∧ i ≤ n ∧ s3 = .int .i64 (sumF wtF (F.take i)) ∧ Own w wx []) (fun _ s4 _ => n - (intOf s4).toNat)
  case atStart => exact ⟨0, by go_num, by omega, by simp [sumF], H⟩
  case round =>
    clear H
    obtain ⟨i, rfl, hi, rfl, H⟩ := hrel
    have hb := sum_bounds (f := wtF) (F := F.take i) (B := 16384) (fun x hx => wtF_bounds (HF.out x (List.mem_of_mem_take hx)))
    have hll : (F.take i).length ≤ 1000000 := by rw [List.length_take]; omega
    have hb1 : 0 ≤ sumF wtF (F.take i) := hb.1
    have hb2 : sumF wtF (F.take i) ≤ 16384000000 := by have := hb.2; omega
    clear hb hll
    by_cases hlt : i < n
    · have hs := sum_take_succ (f := wtF) (F := F) (i := i) (by have := hl.out; omega)
      have hx := HF.out (F.getD i 0) (by
        rw [List.getD_eq_getElem?_getD, List.getElem?_eq_getElem (by have := hl.out; omega)]
        exact List.getElem_mem _)
      obtain ⟨b, o, rfl, c1⟩ := rd_at HR.out H hlt
      generalize F.getD i 0 = x at *
      obtain ⟨q, hq⟩ : ∃ q, Hid (sumF wtF (F.take i) = q) := ⟨_, rfl⟩
      have hI : (i : Int) < (n : Int) := by omega
      obtain ⟨m, rfl⟩ : ∃ m : Nat, x = m := ⟨x.toNat, by omega⟩
      rw [hq.out] at hb1 hb2 hs ⊢
      have hwb := wtF_bounds hx
      by_cases hpos : 0 < (m : Int)
      · have hw : wtF m = 2 ^ (15 - m) := by unfold wtF; rw [if_pos hpos]; rfl
        have hd : IntKind.i64.wrap (15 - (m : Int)) = ((15 - m : Nat) : Int) := by rw [IntWalk.i64_in _ ⟨by omega, by omega⟩]; omega
        obtain ⟨d, hd2⟩ : ∃ d, d = 15 - m := ⟨_, rfl⟩
        rw [← hd2] at hd hw
        rw [hw] at hs hwb
        obtain ⟨p, hp⟩ : ∃ p : Int, (2 : Int) ^ d = p := ⟨_, rfl⟩
        rw [hp] at hs hwb
        have hd15 : min d 64 = d := by omega
        clear hw hd2
        have HP := Lib.hid hp
        clear hp
        have hsw : wrap64 (q + p) = q + p := IntWalk.wrap64_in _ ⟨by omega, by omega⟩
        have hpw : wrap64 ((2 : Int) ^ min d 64) = p := by rw [hd15, HP.out]; exact IntWalk.wrap64_in _ ⟨by omega, by omega⟩
        have HS := Lib.hid hs
        clear hs hd15
        go_wp2_with fail
        go_roundw
        case rel => exact ⟨i + 1, by go_num, by omega, by rw [HS.out], H⟩
        case measure => simp [intOf]; omega
      · have hw : wtF m = 0 := by unfold wtF; rw [if_neg hpos]
        rw [hw, Int.add_zero] at hs
        have HS := Lib.hid hs
        clear hs hw
        go_wp2_with fail
        go_roundw
        case rel => exact ⟨i + 1, by go_num, by omega, by rw [HS.out], H⟩
        case measure => simp [intOf]; omega
    · obtain rfl : i = n := by omega
      have e : Hid (F.take i = F) := Lib.hid (List.take_of_length_le (by have := hl.out; omega))
      rw [e.out, hZ.out] at hb1 hb2 ⊢
      go_wp2
      go_ret
      exact ⟨_, rfl, rfl, H⟩
end Go.Proofs.Yteoecchggjmffaa
/- huff: the walk of the document's May. -/
namespace Go.Proofs.Yteoecchggjmffaa
open Go.RowKit

set_option maxHeartbeats 800000 in
theorem rmay_any {w : World} {v : Value} {n : Nat} {F : List Int} (hr : Rd w 1 v n (nums F)) (hn : n ≤ 1000000) :
    Calls Try.prog 68 #[v] w (Ret fun r w' => r = .bool (mayF F) ∧ Own w w' []) := by
  have hl := Lib.hid (rd_len hr)
  obtain ⟨a, c, rfl, hc1, hc2⟩ := hr.shape
  have HR := Lib.hid hr
  have H := Own.start w
  obtain ⟨Z, hZ⟩ : ∃ Z, Hid (mayF F = Z) := ⟨_, rfl⟩
  rw [hZ.out]
  clear hr
  go_enter Try.func68, Try.ntmps68
  go_wp2_with fail
  go_loopw [3] (fun s3 wx => ∃ i : Nat, s3 = .int .i64 i ∧ i ≤ n ∧ i ≤ 321 ∧ Hid ((F.take i).all okLen = true) ∧ Own w wx []) (fun s3 _ => n - (intOf s3).toNat)
  case atStart => exact ⟨0, by go_num, by omega, by omega, Lib.hid rfl, H⟩
  case round =>
    clear H
    obtain ⟨i, rfl, hi, hi2, hal, H⟩ := hrel
    by_cases hlt : i < n
    · have hI : (i : Int) < (n : Int) := by omega
      by_cases h320 : i ≤ 320
      · have h320I : (i : Int) ≤ 320 := by omega
        have hs := all_take_succ (p := okLen) (F := F) (i := i) (by have := hl.out; omega)
        obtain ⟨b, o, rfl, c1⟩ := rd_at HR.out H hlt
        have hbad : okLen (F.getD i 0) = false → Hid (Z = false) := fun h => Lib.hid (by
          rw [← hZ.out]
          unfold mayF
          have : F.all okLen = false := by
            rw [List.all_eq_false]
            refine ⟨F.getD i 0, ?_, by rw [h]; simp⟩
            rw [List.getD_eq_getElem?_getD, List.getElem?_eq_getElem (by have := hl.out; omega)]
            exact List.getElem_mem _
          rw [this, Bool.and_false])
        rw [hal.out, Bool.true_and] at hs
        generalize F.getD i 0 = x at *
        by_cases h0 : x < 0
        · have e := hbad (by simp [okLen]; omega)
          clear hs hbad
          go_wp2
          go_ret
          exact ⟨_, rfl, by rw [e.out]; rfl, H⟩
        · by_cases h15 : 15 < x
          · have e := hbad (by simp [okLen]; omega)
            clear hs hbad
            go_wp2
            go_ret
            exact ⟨_, rfl, by rw [e.out]; rfl, H⟩
          · have e : Hid ((F.take (i + 1)).all okLen = true) := Lib.hid (by rw [hs]; simp [okLen]; omega)
            clear hs hbad
            go_wp2_with fail
            go_roundw
            case rel => exact ⟨i + 1, by go_num, by omega, by omega, e, H⟩
            case measure => simp [intOf]; omega
      · have h320I : ¬ (i : Int) ≤ 320 := by omega
        have e : Hid (Z = false) := Lib.hid (by
          rw [← hZ.out]; unfold mayF
          have := hl.out
          rw [decide_eq_false (by omega), Bool.false_and])
        have hn2 : ¬ (n : Int) ≤ 320 := by omega
        go_wp2
        go_ret
        exact ⟨_, rfl, by rw [e.out]; rfl, H⟩
    · obtain rfl : i = n := by omega
      have hI : ¬ (i : Int) < (i : Int) := by omega
      have e : Hid (Z = decide (i ≤ 320)) := Lib.hid (by
        rw [← hZ.out]; unfold mayF
        have h1 := hal.out
        rw [List.take_of_length_le (by have := hl.out; omega)] at h1
        rw [h1, Bool.and_true, hl.out])
      by_cases h320 : i ≤ 320
      · have h320I : (i : Int) ≤ 320 := by omega
        have e2 : Hid (Z = true) := Lib.hid (by rw [e.out]; simp [h320])
        go_wp2
        go_ret
        exact ⟨_, rfl, by rw [e2.out]; rfl, H⟩
      · have h320I : ¬ (i : Int) ≤ 320 := by omega
        have e2 : Hid (Z = false) := Lib.hid (by rw [e.out]; simp [h320])
        go_wp2
        go_ret
        exact ⟨_, rfl, by rw [e2.out]; rfl, H⟩
end Go.Proofs.Yteoecchggjmffaa
/- huff: the walk of the document's Codes. -/
namespace Go.Proofs.Yteoecchggjmffaa
open Go.RowKit


set_option maxRecDepth 100000 in
set_option maxHeartbeats 6400000 in
theorem rcodes_any {w : World} {v : Value} {n : Nat} {F : List Int} (hr : Rd w 1 v n (nums F)) (hn : n ≤ 1000000) :
    Calls Try.prog 54 #[v] w (Ret fun r w' => ∃ ov, r = .tuple #[ov, .int .i64 (cerrF F)] ∧ Own w w' [slc 3 1 ov (cresF F).length (nums (cresF F))]) := by
  have hl := Lib.hid (rd_len hr)
  obtain ⟨a, c, rfl, hc1, hc2⟩ := hr.shape
  have HR := Lib.hid hr
  obtain ⟨er, her⟩ : ∃ er, Hid (cerrF F = er) := ⟨_, rfl⟩
  obtain ⟨R, hRes⟩ : ∃ R, Hid (cresF F = R) := ⟨_, rfl⟩
  rw [her.out, hRes.out]
  obtain ⟨RL, hRL⟩ : ∃ RL, Hid (R.length = RL) := ⟨_, rfl⟩
  rw [hRL.out]
  obtain ⟨Z, hZ⟩ : ∃ Z, Hid (mayF F = Z) := ⟨_, rfl⟩
  have HC := Lib.hid (rmay_any hr hn)
  rw [hZ.out] at HC
  have hnil : er ≠ 0 → R = [] ∧ RL = 0 := fun h => by
    have : R = [] := by rw [← hRes.out]; unfold cresF; rw [her.out, if_neg h]
    exact ⟨this, by rw [← hRL.out, this]; rfl⟩
  have HNIL := Lib.hid hnil
  have HW := Lib.hid (fun (h : ∀ x ∈ F, 0 ≤ x ∧ x ≤ 15) w' (h1 : Own w w' []) => rweight_any (hr.old h1) hn h)
  clear hnil hr
  go_enter Try.func54, Try.ntmps54
  go_wp2_with fail
  refine HC.out.mono ?_
  rintro e w1 ⟨_, rfl, rfl, H⟩
  clear HC
  cases Z with
  | false =>
    have e1 : Hid (er = 1) := Lib.hid (by rw [← her.out]; unfold cerrF; rw [hZ.out]; rfl)
    obtain ⟨e2, e3⟩ := HNIL.out (by rw [e1.out]; decide)
    subst e3
    have E2 := Lib.hid e2
    clear e2
    go_wp2_with fail
    go_ret2
    refine ⟨_, rfl, _, by rw [e1.out]; rfl, ?_⟩
    rw [E2.out]
    exact H.bare.nil 3 1
  | true =>
    have hm := mayF_len hZ.out
    have HF := Lib.hid hm.2
    have hn3 : n ≤ 320 := by have := hm.1; have := hl.out; omega
    have HW2 := Lib.hid (HW.out hm.2 w1 H)
    obtain ⟨wt, hwt⟩ : ∃ wt, Hid (sumF wtF F = wt) := ⟨_, rfl⟩
    rw [hwt.out] at HW2
    clear hm HW
    by_cases hw : wt ≤ 32768
    · have e1 : Hid (er = 0) := Lib.hid (by rw [← her.out]; unfold cerrF; rw [hZ.out, if_pos rfl, hwt.out, if_pos (show wt ≤ 2 ^ 15 by omega)])
      have e2 : Hid (codesF F = R) := Lib.hid (by rw [← hRes.out]; unfold cresF; rw [her.out, e1.out]; rfl)
      have hRl : n = RL := by rw [← hRL.out, ← e2.out, codesF_length]; exact hl.out.symm
      subst hRl
      have hwI : ¬ (32768 : Int) < wt := by omega
      go_wp2_with fail
      refine HW2.out.mono ?_
      rintro e w2 ⟨_, rfl, rfl, H1⟩
      have H := (H.join H1).nil 3 1
      clear H1 HW2
      go_wp2_with fail
      go_loopw [4, 5] (fun s4 s5 wx => ∃ s : Nat, s5 = .int .i64 s ∧ s ≤ n ∧ Own w wx [slc 3 1 s4 s (nums ((codesF F).take s))]) (fun _ s5 _ => n - (intOf s5).toNat)
      case atStart => exact ⟨0, by go_num, by omega, by simpa [nums] using H⟩
      case round =>
        clear H
        obtain ⟨s, rfl, hs, H⟩ := hrel
        by_cases hlt : s < n
        · have hsI : (s : Int) < (n : Int) := by omega
          have hsl : s < F.length := by have := hl.out; omega
          obtain ⟨b, o, rfl, c1⟩ := rd_at HR.out H hlt
          have hy := HF.out (F.getD s 0) (by
            rw [List.getD_eq_getElem?_getD, List.getElem?_eq_getElem hsl]
            exact List.getElem_mem _)
          have hct := codes_take_succ hsl
          by_cases h0 : F.getD s 0 = 0
          · have hcode : codeF F s = 0 := by unfold codeF; rw [if_neg (by omega)]
            rw [hcode] at hct
            have hst : nums ((codesF F).take s) ++ [.int .i64 0] = nums ((codesF F).take (s + 1)) := by rw [hct]; simp [nums]
            have HST := Lib.hid hst
            rw [h0] at c1
            clear hst hct hcode h0 hy
            go_wp2_with (at_builtin; refine wpList_append_one rfl _ _ rfl Try.underlying26 intInfo rfl (by decide) rfl H (news := [.int .i64 0]) rfl rfl rfl (by simp [Value.oneCell']) (by omega) (by omega) ?_; clear H c1; intro v' w' H; rw [HST.out] at H)
            go_roundw
            case rel => exact ⟨s + 1, by go_num, by omega, H⟩
            case measure => simp [intOf]; omega
          · have hpos : 0 < F.getD s 0 := by omega
            have hsh := bef_shift HF.out hsl hpos
            obtain ⟨m, hm⟩ : ∃ m : Nat, F.getD s 0 = m := ⟨(F.getD s 0).toNat, by omega⟩
            have hst : nums ((codesF F).take s) ++ [.int .i64 (codeF F s)] = nums ((codesF F).take (s + 1)) := by rw [hct]; simp [nums]
            have HST := Lib.hid hst
            have hm1 : 1 ≤ m := by omega
            have hm2 : m ≤ 15 := by omega
            have HM := Lib.hid hm
            rw [hm] at c1 hsh
            rw [Int.toNat_natCast, hl.out] at hsh
            have HSH := Lib.hid hsh
            have hmz : ((m : Int) == 0) = false := by simp; omega
            clear hst hct h0 hy hpos hm hsh
            go_wp2_with fail
            go_loopw [6, 7] (fun s6 s7 wx => ∃ t : Nat, s7 = .int .i64 t ∧ t ≤ n ∧ s6 = .int .i64 (befN F s t) ∧ Own w wx [slc 3 1 u4 s (nums ((codesF F).take s))]) (fun _ s7 _ => n - (intOf s7).toNat)
            case atStart => exact ⟨0, by go_num, by omega, by simp [befN], H⟩
            case round =>
              clear H c1
              obtain ⟨t, rfl, ht, rfl, H⟩ := hrel
              by_cases htn : t < n
              · have htI : (t : Int) < (n : Int) := by omega
                have g : ∀ (ps' : List Piece) (w' : World), Own w w' ps' → w'.cell? ⟨b, o + s, none⟩ = some (.int .i64 m) ∧ w'.cell? ⟨b, o + t, none⟩ = some (.int .i64 (F.getD t 0)) := fun ps' w' h => by
                  obtain ⟨b1, o1, he, h1⟩ := rd_at HR.out h hlt
                  obtain ⟨b2, o2, he2, h2⟩ := rd_at HR.out h htn
                  cases he; cases he2
                  rw [HM.out] at h1
                  exact ⟨h1, h2⟩
                have hbl : Hid (befN F s (t + 1) = befN F s t + befT F s t) := Lib.hid rfl
                have hbt : befT F s t = if 0 < F.getD t 0 ∧ (F.getD t 0 < (m : Int) ∨ F.getD t 0 = (m : Int) ∧ t < s) then 2 ^ (15 - (F.getD t 0).toNat) else 0 := by unfold befT; rw [HM.out]
                have hx := HF.out (F.getD t 0) (by
                  rw [List.getD_eq_getElem?_getD, List.getElem?_eq_getElem (by have := hl.out; omega)]
                  exact List.getElem_mem _)
                have hbb := befN_bounds (l := F) HF.out s t
                have hbb2 := befT_bounds (l := F) HF.out s t
                generalize F.getD t 0 = x at *
                generalize befT F s t = z at *
                obtain ⟨q, hq⟩ : ∃ q, Hid (befN F s t = q) := ⟨_, rfl⟩
                rw [hq.out] at hbb hbl ⊢
                obtain ⟨bb, hbbE⟩ : ∃ bb, decide (0 < x ∧ (x < (m : Int) ∨ x = (m : Int) ∧ t < s)) = bb := ⟨_, rfl⟩
                have HBB := Lib.hid hbbE
                have G := Lib.hid g
                have HBT := Lib.hid hbt
                clear g hbt hbbE
                go_upto_region 15 with (fail)
                go_cut [65] (fun s65 wx => s65 = .bool bb ∧ Own w wx [slc 3 1 u4 s (nums ((codesF F).take s))])
                case first =>
                  have hb := HBB.out
                  by_cases g1 : 0 < x
                  case' neg =>
                    have e : Hid (bb = false) := Lib.hid (by rw [← hb]; simp; omega)
                  case' pos =>
                    by_cases g2 : x < (m : Int)
                    case' pos =>
                      have e : Hid (bb = true) := Lib.hid (by rw [← hb]; simp; omega)
                    case' neg =>
                      by_cases g3 : x = (m : Int)
                      case' neg =>
                        have g4 : (x == (m : Int)) = false := by simp; omega
                        have e : Hid (bb = false) := Lib.hid (by rw [← hb]; simp; omega)
                      case' pos =>
                        have g4 : ((m : Int) == (m : Int)) = true := by simp
                        subst g3
                        have hmp : 0 < m := by omega
                        by_cases g5 : t < s
                        case' pos =>
                          have g5I : (t : Int) < (s : Int) := by omega
                          have e : Hid (bb = true) := Lib.hid (by rw [← hb]; simp; omega)
                        case' neg =>
                          have g5I : ¬ (t : Int) < (s : Int) := by omega
                          have e : Hid (bb = false) := Lib.hid (by rw [← hb]; simp; omega)
                  all_goals
                    clear hb
                    refine wp_region_calm (fun w1 => Own w w1 [slc 3 1 u4 s (nums ((codesF F).take s))]) 31 (by kernel_rfl) (by kernel_rfl) H.drew ?_
                    simp only [List.take_succ_cons, List.take_zero, List.drop_succ_cons, List.drop_zero]
                    repeat
                      first
                      | (refine calm_value (v := ?_) (by decide) rfl (fun σ w1 hS => ?_) ?_
                         rotate_left
                         · obtain ⟨c0, c1⟩ := G.out _ _ hS
                           first | (go_simp; rfl) | rfl
                         simp only [Act.put, List.setIfInBounds_toArray, List.set_cons_zero, List.set_cons_succ])
                      | (refine calm_skip (by decide) rfl ?_
                         simp only [Act.put, List.setIfInBounds_toArray, List.set_cons_zero, List.set_cons_succ])
                    refine calm_nil ?_
                    intro wd HD
                    go_wp2_with fail
                    go_meet
                    exact ⟨by rw [e.out]; try rfl, HD⟩
                case rest =>
                  clear H
                  obtain ⟨rfl, H⟩ := hcut
                  obtain ⟨c0, c1⟩ := G.out _ _ H
                  cases bb with
                  | true =>
                    obtain ⟨k, rfl⟩ : ∃ k : Nat, x = k := ⟨x.toNat, by omega⟩
                    have hd : IntKind.i64.wrap (15 - (k : Int)) = ((15 - k : Nat) : Int) := by rw [IntWalk.i64_in _ ⟨by omega, by omega⟩]; omega
                    obtain ⟨d, hd2⟩ : ∃ d, d = 15 - k := ⟨_, rfl⟩
                    rw [← hd2] at hd
                    have hd15 : min d 64 = d := by omega
                    have HBT2 : Hid ((2 : Int) ^ d = z) := Lib.hid (by
                      have hb := HBB.out
                      have hbt := HBT.out
                      rw [if_pos (by simpa using hb), Int.toNat_natCast, ← hd2] at hbt
                      exact hbt.symm)
                    clear hd2
                    have hsw : wrap64 (q + z) = q + z := IntWalk.wrap64_in _ ⟨by omega, by omega⟩
                    have hpw : wrap64 ((2 : Int) ^ min d 64) = z := by rw [hd15, HBT2.out]; exact IntWalk.wrap64_in _ ⟨by omega, by omega⟩
                    clear hd15 hbb hbb2 hx
                    go_wp2_with fail
                    go_roundw
                    case rel => exact ⟨t + 1, by go_num, by omega, by rw [hbl.out]; exact val_int hsw, H⟩
                    case measure => simp [intOf]; omega
                  | false =>
                    have hz0 : z = 0 := by
                      have hb := HBB.out
                      have hbt := HBT.out
                      rw [if_neg (by simpa using hb)] at hbt
                      exact hbt
                    have hbl2 : Hid (befN F s (t + 1) = q) := Lib.hid (by rw [hbl.out, hz0, Int.add_zero])
                    clear hz0 hbl
                    go_wp2_with fail
                    go_roundw
                    case rel => exact ⟨t + 1, by go_num, by omega, by rw [hbl2.out], H⟩
                    case measure => simp [intOf]; omega
              · obtain rfl : t = n := by omega
                have htI : ¬ (t : Int) < (t : Int) := by omega
                obtain ⟨b1, o1, he, c1⟩ := rd_at HR.out H hlt
                cases he
                rw [HM.out] at c1
                have hbb := befN_bounds (l := F) HF.out s t
                have hd : IntKind.i64.wrap (15 - (m : Int)) = ((15 - m : Nat) : Int) := by rw [IntWalk.i64_in _ ⟨by omega, by omega⟩]; omega
                obtain ⟨q, hq⟩ : ∃ q, Hid (befN F s t = q) := ⟨_, rfl⟩
                rw [hq.out] at hbb HSH ⊢
                obtain ⟨d, hd2⟩ : ∃ d, d = 15 - m := ⟨_, rfl⟩
                rw [← hd2] at hd HSH
                have hd63 : d < 64 := by omega
                have hdI : (d : Int) < 64 := by omega
                clear hd2 hbb hs hm1 hm2
                go_wp2_with (at_builtin; rw [HSH.out]; refine wpList_append_one rfl _ _ rfl Try.underlying26 intInfo rfl (by decide) rfl H (news := [.int .i64 (codeF F s)]) rfl rfl rfl (by simp [Value.oneCell']) (by omega) (by omega) ?_; clear H c1; intro v' w' H; rw [HST.out] at H)
                go_roundw
                case rel => exact ⟨s + 1, by go_num, by omega, H⟩
                case measure => simp [intOf]; omega
        · obtain rfl : s = n := by omega
          have hsI : ¬ (s : Int) < (s : Int) := by omega
          rw [List.take_of_length_le (by rw [codesF_length]; have := hl.out; omega), e2.out] at H
          go_wp2_with fail
          go_ret2
          exact ⟨_, rfl, _, by rw [e1.out]; rfl, H⟩
    · have e1 : Hid (er = 2) := Lib.hid (by rw [← her.out]; unfold cerrF; rw [hZ.out, if_pos rfl, hwt.out, if_neg (show ¬ wt ≤ 2 ^ 15 by omega)])
      obtain ⟨e2, e3⟩ := HNIL.out (by rw [e1.out]; decide)
      subst e3
      have E2 := Lib.hid e2
      have hwI : (32768 : Int) < wt := by omega
      clear e2
      go_wp2_with fail
      refine HW2.out.mono ?_
      rintro e w2 ⟨_, rfl, rfl, H1⟩
      have H := (H.join H1)
      clear H1 HW2
      go_wp2_with fail
      go_ret2
      refine ⟨_, rfl, _, by rw [e1.out]; rfl, ?_⟩
      rw [E2.out]
      exact H.bare.nil 3 1
end Go.Proofs.Yteoecchggjmffaa
/- Bits: the document's writer. (Picked out of others by tools/pick.py.) -/
namespace Go.Proofs.Yteoecchggjmffaa
open Go.RowKit

def intBits (bs : List Bool) : List Value := bs.map fun b => .int .i64 (bi b)
theorem intBits_append (bs : List Bool) (b : Bool) : intBits (bs ++ [b]) = intBits bs ++ [.int .i64 (bi b)] := by simp [intBits]
/-- The document's writer of these bits, behind the pointer ⟨g, 0⟩. -/
def RWtr (g : Nat) (bs : List Bool) : Piece := ex fun v => star (blk g (.cells #[v] 51)) (slc 3 1 v bs.length (intBits bs))
theorem Own.rwtr {w0 w : World} {ps : List Piece} {g : Nat} {bs : List Bool} (H : Own w0 w (RWtr g bs :: ps)) :
    ∃ a c, bs.length ≤ c ∧ c ≤ 9223372036854775807 ∧ Own w0 w (blk g (.cells #[.slice a bs.length c] 51) :: slc 3 1 (.slice a bs.length c) bs.length (intBits bs) :: ps) := by
  obtain ⟨v, H⟩ := H.ex
  replace H := H.star
  obtain ⟨a, c, rfl, h1, h2⟩ := (H.front 1 rfl).rd.shape
  exact ⟨a, c, h1, h2, H⟩
theorem Own.unrwtr {w0 w : World} {ps : List Piece} {g : Nat} {bs : List Bool} {v : Value} {m : Nat} {xs : List Value} (H : Own w0 w (blk g (.cells #[v] 51) :: slc 3 1 v m xs :: ps)) (hm : m = bs.length) (hx : xs = intBits bs) : Own w0 w (RWtr g bs :: ps) := by
  subst hm hx
  exact H.unstar.unex v
theorem rcut_any (n : Int) (w : World) : Calls Try.prog 53 #[.int .i64 n] w fun e w' => e = .returned (.int .i64 (cut n)) ∧ w' = w := by
  go_enter Try.func53, Try.ntmps53
  go_wp2
  all_goals go_ret
  all_goals exact ⟨ret_int (by unfold cut; omega), rfl⟩
set_option maxHeartbeats 400000 in
theorem rput_any {w0 w : World} {ps : List Piece} {g : Nat} {bs : List Bool} (v n : Int) (hv : -9223372036854775808 ≤ v ∧ v ≤ 9223372036854775807) (H : Own w0 w (RWtr g bs :: ps)) (hl : bs.length ≤ 8796093022000) :
    Calls Try.prog 39 #[.pointer (some ⟨g, 0, none⟩), .int .i64 v, .int .i64 n] w (Ret fun _ w' => Own w0 w' (RWtr g (bs ++ bitsOf v (cut n)) :: ps)) := by
  obtain ⟨hv1, hv2⟩ := hv
  obtain ⟨m, hm, hm62⟩ : ∃ m : Nat, Hid (cut n = m) ∧ m ≤ 62 := ⟨_, Lib.hid rfl, by unfold cut; omega⟩
  go_enter Try.func39, Try.ntmps39
  go_wp2_with fail
  go_loopw [6] (fun i wx => ∃ k : Nat, k ≤ m ∧ i = .int .i64 k ∧ Own w0 wx (RWtr g (bs ++ bitsOf v k) :: ps)) (fun i _ => m - (intOf i).toNat)
  case atStart => exact ⟨0, Nat.zero_le _, rfl, by simpa [bitsOf] using H⟩
  case round =>
    clear H
    obtain ⟨k, hk, rfl, H⟩ := hrel
    go_wp2_with fail
    refine (rcut_any n wr).mono ?_
    rintro e _ ⟨rfl, rfl⟩
    rw [hm.out]
    by_cases hlt : k < m
    · obtain ⟨b, hbb⟩ : ∃ b, Hid (bitOf v k = b) := ⟨_, rfl⟩
      have hbit : bits .and .i64 (v / 2 ^ k) 1 = bi b := by rw [i64_and1, ← hbb.out, bi_bitOf]
      obtain ⟨N, hN⟩ : ∃ N, Hid ((bs ++ bitsOf v k).length = N) := ⟨_, rfl⟩
      have hN1 : N ≤ 8796093022062 := by rw [← hN.out]; simp [bitsOf_length]; omega
      obtain ⟨a, c, hc1, hc2, H⟩ := H.rwtr
      rw [hN.out] at H hc1
      go_upto_region 3 with (fail)
      refine wp_region_pre (fun σ w1 => Own w0 w1 (newR (.cells #[.int .i64 (bi b)] 3) 1 (σ 9) ++ (blk g (.cells #[.slice a N c] 51) :: slc 3 1 (.slice a N c) N (intBits (bs ++ bitsOf v k)) :: ps))) 10 [9] 0 (.pointer (some ⟨g, 0, none⟩)) _ rfl (by kernel_rfl) (by kernel_rfl) (by kernel_rfl) (by kernel_rfl) (fun _ _ d _ _ h => by cases d <;> exact h) (fun w => by first | rfl | (go_simp; rfl)) H.drew ?_
      simp only [List.take_succ_cons, List.take_zero, List.drop_succ_cons, List.drop_zero]
      repeat
        refine calm_value (v := ?_) (by decide) rfl (fun σ w1 hS => ?_) ?_; rotate_left
        · have c0 := hS.skip.cells
          first | (go_simp; rfl) | rfl
        simp only [Act.put, List.setIfInBounds_toArray, List.set_cons_zero, List.set_cons_succ]
      refine calm_row (by decide) (fun w1 => (by go_simp)) ?_
      refine calm_nil ?_
      intro σ wd hσ HD
      obtain ⟨vn, hvn⟩ := Option.isSome_iff_exists.1 (hσ 9 (by decide))
      rw [hvn] at HD
      obtain ⟨g2, rfl, HN⟩ := HD.newr
      clear HD H
      simp only [putNew, List.foldl_cons, List.foldl_nil, hvn]
      simp only [Act.put, List.setIfInBounds_toArray, List.set_cons_zero, List.set_cons_succ, List.getElem?_cons_succ, List.getElem?_cons_zero, Option.bind_some, Option.getD_some]
      have hrow := (HN.slc_mk (xs := [.int .i64 (bi b)]) (n := 1) (size := 1) rfl (Nat.le_refl _) (by decide) rfl rfl).rd
      have H := HN.drop
      clear HN
      go_wp2_with (first
        | (at_builtin; refine wpList_append_sep rfl _ _ rfl Try.underlying26 intInfo rfl (by decide) rfl H.swap hrow (by simp [Value.oneCell']) (by omega) (by omega) ?_; clear H hrow; intro v' w' H; replace H := H.swap; obtain ⟨a', c', rfl, h1', h2'⟩ := (H.front 1 rfl).rd.shape)
        | (refine wpList_store_slice rfl _ _ rfl rfl H rfl (by kernel_rfl) (by simp) ?_; clear H; intro w2 H))
      go_roundw
      case rel => exact ⟨k + 1, by omega, by go_num, by rw [bitsOf_succ, ← List.append_assoc, hbb.out]; exact H.unrwtr (by rw [List.length_append, hN.out]; rfl) (by rw [intBits_append])⟩
      case measure => simp [intOf]; omega
    · obtain rfl : k = m := by omega
      go_wp2
      go_end0
      rw [hm.out]
      exact ⟨_, rfl, H⟩
set_option maxHeartbeats 400000 in
theorem rcode_any {w0 w : World} {ps : List Piece} {g : Nat} {bs : List Bool} (v n : Int) (hv : -9223372036854775808 ≤ v ∧ v ≤ 9223372036854775807) (H : Own w0 w (RWtr g bs :: ps)) (hl : bs.length ≤ 8796093022000) :
    Calls Try.prog 55 #[.pointer (some ⟨g, 0, none⟩), .int .i64 v, .int .i64 n] w (Ret fun _ w' => Own w0 w' (RWtr g (bs ++ (bitsOf v (cut n)).reverse) :: ps)) := by
  obtain ⟨hv1, hv2⟩ := hv
  obtain ⟨m, hm, hm62⟩ : ∃ m : Nat, Hid (cut n = m) ∧ m ≤ 62 := ⟨_, Lib.hid rfl, by unfold cut; omega⟩
  go_enter Try.func55, Try.ntmps55
  go_wp2_with fail
  refine (rcut_any n w).mono ?_
  rintro e _ ⟨rfl, rfl⟩
  rw [hm.out]
  go_wp2_with fail
  go_loopw [6] (fun i wx => ∃ k : Nat, ∃ d : Int, k ≤ m ∧ i = .int .i64 d ∧ Hid (d = (m : Int) - 1 - k) ∧ Own w0 wx (RWtr g (bs ++ (bitsOf v m).reverse.take k) :: ps)) (fun i _ => (intOf i + 1).toNat)
  case atStart => exact ⟨0, _, Nat.zero_le _, rfl, Lib.hid (by omega), by simpa using H⟩
  case round =>
    clear H
    obtain ⟨k, d, hk, rfl, hd, H⟩ := hrel
    by_cases hlt : k < m
    · obtain ⟨j, hj⟩ : ∃ j, Hid (m - 1 - k = j) := ⟨_, rfl⟩
      obtain rfl : d = (j : Int) := by have := hd.out; have := hj.out; omega
      have hj62 : j < 62 := by have := hj.out; omega
      obtain ⟨b, hbb⟩ : ∃ b, Hid (bitOf v j = b) := ⟨_, rfl⟩
      have hbit : bits .and .i64 (v / 2 ^ j) 1 = bi b := by rw [i64_and1, ← hbb.out, bi_bitOf]
      obtain ⟨N, hN⟩ : ∃ N, Hid ((bs ++ (bitsOf v m).reverse.take k).length = N) := ⟨_, rfl⟩
      have hN1 : N ≤ 8796093022062 := by rw [← hN.out]; simp [bitsOf_length]; omega
      obtain ⟨a, c, hc1, hc2, H⟩ := H.rwtr
      rw [hN.out] at H hc1
      go_upto_region 3 with (fail)
      refine wp_region_pre (fun σ w1 => Own w0 w1 (newR (.cells #[.int .i64 (bi b)] 3) 1 (σ 9) ++ (blk g (.cells #[.slice a N c] 51) :: slc 3 1 (.slice a N c) N (intBits (bs ++ (bitsOf v m).reverse.take k)) :: ps))) 10 [9] 0 (.pointer (some ⟨g, 0, none⟩)) _ rfl (by kernel_rfl) (by kernel_rfl) (by kernel_rfl) (by kernel_rfl) (fun _ _ d _ _ h => by cases d <;> exact h) (fun w => by first | rfl | (go_simp; rfl)) H.drew ?_
      simp only [List.take_succ_cons, List.take_zero, List.drop_succ_cons, List.drop_zero]
      repeat
        refine calm_value (v := ?_) (by decide) rfl (fun σ w1 hS => ?_) ?_; rotate_left
        · have c0 := hS.skip.cells
          first | (go_simp; rfl) | rfl
        simp only [Act.put, List.setIfInBounds_toArray, List.set_cons_zero, List.set_cons_succ]
      refine calm_row (by decide) (fun w1 => (by go_simp)) ?_
      refine calm_nil ?_
      intro σ wd hσ HD
      obtain ⟨vn, hvn⟩ := Option.isSome_iff_exists.1 (hσ 9 (by decide))
      rw [hvn] at HD
      obtain ⟨g2, rfl, HN⟩ := HD.newr
      clear HD H
      simp only [putNew, List.foldl_cons, List.foldl_nil, hvn]
      simp only [Act.put, List.setIfInBounds_toArray, List.set_cons_zero, List.set_cons_succ, List.getElem?_cons_succ, List.getElem?_cons_zero, Option.bind_some, Option.getD_some]
      have hrow := (HN.slc_mk (xs := [.int .i64 (bi b)]) (n := 1) (size := 1) rfl (Nat.le_refl _) (by decide) rfl rfl).rd
      have H := HN.drop
      clear HN
      go_wp2_with (first
        | (at_builtin; refine wpList_append_sep rfl _ _ rfl Try.underlying26 intInfo rfl (by decide) rfl H.swap hrow (by simp [Value.oneCell']) (by omega) (by omega) ?_; clear H hrow; intro v' w' H; replace H := H.swap; obtain ⟨a', c', rfl, h1', h2'⟩ := (H.front 1 rfl).rd.shape)
        | (refine wpList_store_slice rfl _ _ rfl rfl H rfl (by kernel_rfl) (by simp) ?_; clear H; intro w2 H))
      go_roundw
      case rel => exact ⟨k + 1, _, by omega, rfl, Lib.hid (by have := hd.out; omega), by rw [codeBits_take v m k hlt, ← List.append_assoc, hj.out, hbb.out]; exact H.unrwtr (by rw [List.length_append, hN.out]; rfl) (by rw [intBits_append])⟩
      case measure => simp [intOf]
    · have hd0 : d < 0 := by have := hd.out; omega
      obtain rfl : k = m := by omega
      rw [List.take_of_length_le (by simp [bitsOf_length])] at H
      go_wp2
      go_end0
      rw [hm.out]
      exact ⟨_, rfl, H⟩
set_option maxHeartbeats 400000 in
theorem ralign_any {w0 w : World} {ps : List Piece} {g : Nat} {bs : List Bool} (H : Own w0 w (RWtr g bs :: ps)) (hl : bs.length ≤ 8796093022000) :
    Calls Try.prog 40 #[.pointer (some ⟨g, 0, none⟩)] w (Ret fun _ w' => Own w0 w' (RWtr g (aligned bs) :: ps)) := by
  obtain ⟨m, hm⟩ : ∃ m, Hid (padN bs.length = m) := ⟨_, rfl⟩
  have hm8 : m < 8 ∧ (bs.length + m) % 8 = 0 := by rw [← hm.out]; unfold padN; omega
  obtain ⟨hm8, hmm⟩ := hm8
  have hmm := Lib.hid hmm
  go_enter Try.func40, Try.ntmps40
  go_wp2_with fail
  go_loopw [2] (fun _ wx => ∃ k : Nat, k ≤ m ∧ Own w0 wx (RWtr g (bs ++ List.replicate k false) :: ps)) (fun _ wx => bs.length + m - sliceLen ((wx.cell? ⟨g, 0, none⟩).getD undef))
  case atStart => exact ⟨0, Nat.zero_le _, by simpa using H⟩
  case round =>
    clear H
    obtain ⟨k, hk, H⟩ := hrel
    obtain ⟨N, hN⟩ : ∃ N, Hid ((bs ++ List.replicate k false).length = N) := ⟨_, rfl⟩
    have hN1 : Hid (N = bs.length + k) := Lib.hid (by rw [← hN.out]; simp)
    have hN2 : N ≤ 8796093022100 := by have := hN1.out; omega
    obtain ⟨a, c, hc1, hc2, H⟩ := H.rwtr
    rw [hN.out] at H hc1
    have c0 := H.cells
    have hm0 : Hid (sliceLen ((wr.cell? ⟨g, 0, none⟩).getD undef) = N) := Lib.hid (by rw [c0]; rfl)
    by_cases hlt : k < m
    · have hr : ((N : Int) % 8 == 0) = false := by have := hN1.out; have := hmm.out; simp; omega
      have hr2 : ((N : Int).tmod 8 == 0) = false := by rw [Int.tmod_eq_emod_of_nonneg (by omega)]; exact hr
      go_wp2_with (first
        | (at_builtin; refine wpList_append_one rfl _ _ rfl Try.underlying26 intInfo rfl (by decide) rfl H.swap rfl rfl rfl (by simp [Value.oneCell']) (by omega) (by omega) ?_; clear H c0; intro v' w' H; replace H := H.swap; obtain ⟨a', c', rfl, h1', h2'⟩ := (H.front 1 rfl).rd.shape)
        | (refine wpList_store_slice rfl _ _ rfl rfl H rfl (by kernel_rfl) (by simp) ?_; clear H; intro w2 H))
      have c0 := H.cells
      simp only [Act.put]
      go_roundw
      case rel => exact ⟨k + 1, by omega, by rw [List.replicate_succ', ← List.append_assoc]; exact H.unrwtr (by rw [List.length_append, hN.out]; rfl) (by rw [intBits_append]; rfl)⟩
      case measure =>
        rw [hm0.out, c0]
        have := hN1.out
        simp [sliceLen]
        omega
    · obtain rfl : k = m := by omega
      have hr : (N : Int) % 8 = 0 := by have := hN1.out; have := hmm.out; omega
      have hr2 : (N : Int).tmod 8 = 0 := by rw [Int.tmod_eq_emod_of_nonneg (by omega)]; exact hr
      go_wp2
      go_end0
      refine ⟨_, rfl, ?_⟩
      unfold aligned
      rw [hm.out]
      exact H.unrwtr (by rw [hN.out]) rfl
theorem bitsOfNums_snoc (ns : List Int) (n : Int) : bitsOfNums (ns ++ [n]) = bitsOfNums ns ++ bitsOf n 8 := by simp [bitsOfNums]
set_option maxHeartbeats 400000 in
theorem rtext_any {w0 w : World} {ps : List Piece} {g : Nat} {bs : List Bool} (s : ByteArray) (hs : s.size ≤ 100000000000) (H : Own w0 w (RWtr g bs :: ps)) (hl : bs.length ≤ 100000000000) :
    Calls Try.prog 41 #[.pointer (some ⟨g, 0, none⟩), .string s] w (Ret fun _ w' => Own w0 w' (RWtr g (aligned bs ++ textBits s) :: ps)) := by
  have hal : (aligned bs).length ≤ 100000000007 := by rw [aligned_length]; unfold nbytes; omega
  go_enter Try.func41, Try.ntmps41
  go_wp2_with fail
  refine (ralign_any H (by omega)).mono ?_
  rintro e w1 ⟨_, rfl, H1⟩
  clear H
  go_wp2_with fail
  go_loopw [4] (fun i wx => ∃ k : Nat, k ≤ s.size ∧ i = .int .i64 k ∧ Own w0 wx (RWtr g (aligned bs ++ bitsOfNums ((byteNums s).take k)) :: ps)) (fun i _ => s.size - (intOf i).toNat)
  case atStart => exact ⟨0, Nat.zero_le _, rfl, by simpa [bitsOfNums] using H1⟩
  case round =>
    clear H1
    obtain ⟨k, hk, rfl, H⟩ := hrel
    by_cases hlt : k < s.size
    · have hbn : (byteNums s)[k]? = some ((s[k].toNat : Nat) : Int) := by
        have : k < s.data.size := hlt
        simp only [byteNums, List.getElem?_map, Array.getElem?_toList, Array.getElem?_eq_getElem this]
        rfl
      have hx8 := s[k].toNat_lt
      have hwx : wrap64 ((s[k].toNat : Nat) : Int) = ((s[k].toNat : Nat) : Int) := IntWalk.wrap64_in _ ⟨by omega, by omega⟩
      have hnext : bitsOfNums ((byteNums s).take (k + 1)) = bitsOfNums ((byteNums s).take k) ++ bitsOf ((s[k].toNat : Nat) : Int) 8 := by
        rw [List.take_add_one, hbn, Option.toList_some, bitsOfNums_snoc]
      go_wp2_with fail
      refine (rput_any _ 8 ⟨by omega, by omega⟩ H (by rw [List.length_append, bitsOfNums_length, List.length_take, byteNums_length]; omega)).mono ?_
      rintro e w2 ⟨_, rfl, H2⟩
      replace H : Own w0 w2 (RWtr g (aligned bs ++ bitsOfNums ((byteNums s).take (k + 1))) :: ps) := by
        rw [hnext, ← List.append_assoc]
        exact H2
      clear H2 hnext hbn hwx
      go_wp2
      go_roundw
      case rel => exact ⟨k + 1, by omega, by go_num, H⟩
      case measure => simp [intOf]; omega
    · obtain rfl : k = s.size := by omega
      go_wp2
      go_end0
      refine ⟨_, rfl, ?_⟩
      rw [List.take_of_length_le (by rw [byteNums_length]; omega)] at H
      exact H
end Go.Proofs.Yteoecchggjmffaa
/- flate: the walk of the document's Body. -/
namespace Go.Proofs.Yteoecchggjmffaa
open Go.RowKit

theorem rcp {w0 : World} {ps : List Piece} {g s : Nat} {v u : Value} {L : List Int} (hc : CodOk w0 ps v u L) (hs : s < L.length) (B : List Bool) (hl : B.length ≤ 8796093022000) :
    ∀ w, Own w0 w (RWtr g B :: ps) → Calls Try.prog 55 #[.pointer (some ⟨g, 0, none⟩), .int .i64 (codeF L s), .int .i64 (L.getD s 0)] w (Ret fun _ w' => Own w0 w' (RWtr g (B ++ cbits L s) :: ps)) := fun w h => by
  have hb := hc.bd hs
  have hw := rcode_any (codeF L s) (L.getD s 0) (by omega) h hl
  have hcb : (bitsOf (codeF L s) (cut (L.getD s 0))).reverse = cbits L s := by unfold cbits; rw [cut_eq hb.1 (by omega)]
  rw [hcb] at hw
  exact hw
/-- A code's cells at a symbol. -/
theorem CodOk.cells {w0 : World} {ps : List Piece} {b1 o1 c1 n1 b2 o2 c2 n2 : Nat} {L : List Int} (hc : CodOk w0 ps (.slice (some ⟨b1, o1, none⟩) n1 c1) (.slice (some ⟨b2, o2, none⟩) n2 c2) L) (hn1 : n1 = L.length) (hn2 : n2 = L.length) {s : Nat} (hs : s < L.length) :
    ∀ w1, Own w0 w1 ps → w1.cell? ⟨b1, o1 + s, none⟩ = some (.int .i64 (L.getD s 0)) ∧ w1.cell? ⟨b2, o2 + s, none⟩ = some (.int .i64 (codeF L s)) := fun w1 h => by
  subst hn1 hn2
  refine ⟨(hc.len w1 h).cell (nums_get (getD_get hs)), (hc.cod w1 h).cell (nums_get ?_)⟩
  rw [getD_get (by rw [codesF_length]; exact hs), codesF_get hs]

set_option maxRecDepth 100000 in
set_option maxHeartbeats 6400000 in
theorem rbody_any {w0 w : World} {ps : List Piece} {g : Nat} {bs : List Bool} {v v2 tv : Value} {L D : List Int} {l : List Tok} (hL : Reads w0 ps 1 v L.length (nums L)) (hD : Reads w0 ps 1 v2 D.length (nums D)) (hLe : cerrF L = 0) (hDe : cerrF D = 0) (hD1 : 0 < D.length) (ht : Reads w0 ps 3 tv l.length (rows tcell l)) (hs : ∀ t ∈ l, SymOk L D t) (he : 256 < L.length) (H : Own w0 w (RWtr g bs :: ps)) (hl : bs.length + 48 * l.length ≤ 8796093000000) :
    Calls Try.prog 43 #[.pointer (some ⟨g, 0, none⟩), tv, v, v2] w (Ret fun _ w' => Own w0 w' (RWtr g (bs ++ bodyB L D l) :: ps)) := by
  obtain ⟨ta, tc, rfl, ht1, ht2⟩ := (ht w H.drop).shape
  obtain ⟨b1, o1, c1, rfl, hc11, hc12⟩ := (hL w H.drop).some (by rw [nums_length]; omega)
  obtain ⟨b3, o3, c3, rfl, hc31, hc32⟩ := (hD w H.drop).some (by rw [nums_length]; omega)
  have hmL : L.length ≤ 320 ∧ (∀ x ∈ L, 0 ≤ x ∧ x ≤ 15) ∧ sumF wtF L ≤ 2 ^ 15 := cerr_ok hLe
  have hmD : D.length ≤ 320 ∧ (∀ x ∈ D, 0 ≤ x ∧ x ≤ 15) ∧ sumF wtF D ≤ 2 ^ 15 := cerr_ok hDe
  have hcL : cresF L = codesF L := by unfold cresF; rw [if_pos hLe]
  have hcD : cresF D = codesF D := by unfold cresF; rw [if_pos hDe]
  have h1 := fun w1 h => rcodes_any (w := w1) (hL w1 h) (by omega)
  have h2 := fun w1 h => rcodes_any (w := w1) (hD w1 h) (by omega)
  rw [hcL, hLe, codesF_length] at h1
  rw [hcD, hDe, codesF_length] at h2
  have HMK := Lib.hid (fun (u u2 : Value) (w' : World) (h : Own w0 w' (RWtr g bs :: slc 3 1 u2 D.length (nums (codesF D)) :: slc 3 1 u L.length (nums (codesF L)) :: ps)) => And.intro
    (show CodOk w0 (slc 3 1 u2 D.length (nums (codesF D)) :: slc 3 1 u L.length (nums (codesF L)) :: ps) (.slice (some ⟨b1, o1, none⟩) L.length c1) u L from ⟨hL.mono fun w' h => h.drop.drop, fun w' h => (h.front 1 rfl).rd, hmL.2.1, hmL.2.2, hmL.1⟩)
    (show CodOk w0 (slc 3 1 u2 D.length (nums (codesF D)) :: slc 3 1 u L.length (nums (codesF L)) :: ps) (.slice (some ⟨b3, o3, none⟩) D.length c3) u2 D from ⟨hD.mono fun w' h => h.drop.drop, fun w' h => h.rd, hmD.2.1, hmD.2.2, hmD.1⟩))
  obtain ⟨n, hn⟩ : ∃ n, Hid (L.length = n) := ⟨_, rfl⟩
  obtain ⟨m, hm⟩ : ∃ m, Hid (D.length = m) := ⟨_, rfl⟩
  obtain ⟨N, hN⟩ : ∃ N, Hid (l.length = N) := ⟨_, rfl⟩
  have HL := Lib.hid (fun k => toksB_take_le hmL.2.1 hmD.2.1 (fun t h => (hs t h).1) (l := l) k)
  have hcb : ∀ (k : Nat), (cbits L k).length ≤ 15 ∧ (cbits D k).length ≤ 15 := fun k => ⟨cbits_le hmL.2.1 k, cbits_le hmD.2.1 k⟩
  have HCB := Lib.hid hcb
  rw [hn.out] at h1 he hc11 HMK ⊢
  rw [hm.out] at h2 hD1 hc31 HMK ⊢
  rw [hN.out] at ht ht1 hl HL ⊢
  have H1 := Lib.hid h1
  have H2 := Lib.hid h2
  have HT := Lib.hid ht
  have HS := Lib.hid hs
  clear h1 h2 hL hD hmL hmD hLe hDe hcL hcD ht hs hcb
  go_enter Try.func43, Try.ntmps43
  go_wp2_with fail
  refine (H1.out _ H.drop).mono ?_
  rintro e w1 ⟨_, rfl, u1, rfl, J1⟩
  replace H := H.join J1
  clear J1
  obtain ⟨a2, c2, rfl, -⟩ := H.rd.shape
  go_wp2_with fail
  refine (H2.out _ H.drop.drop).mono ?_
  rintro e w2 ⟨_, rfl, u2, rfl, J2⟩
  replace H := H.join J2
  clear J2
  obtain ⟨a4, c4, rfl, -⟩ := H.rd.shape
  have H : Own w0 w2 (RWtr g bs :: slc 3 1 (.slice a4 m c4) m (nums (codesF D)) :: slc 3 1 (.slice a2 n c2) n (nums (codesF L)) :: ps) := H.front 2 rfl
  obtain ⟨hcL, hcD⟩ := HMK.out _ _ _ H
  obtain ⟨b2, o2, _, he1, -⟩ := (hcL.cod _ H.drop).some (by rw [nums_length, codesF_length, hn.out]; omega)
  rw [hn.out] at he1
  cases he1
  obtain ⟨b4, o4, _, he1, -⟩ := (hcD.cod _ H.drop).some (by rw [nums_length, codesF_length, hm.out]; omega)
  rw [hm.out] at he1
  cases he1
  have HCL := Lib.hid hcL
  have HCD := Lib.hid hcD
  clear hcL hcD HMK H1 H2
  go_wp2_with fail
  go_loopw [12] (fun s12 wx => ∃ k : Nat, s12 = .int .i64 k ∧ k ≤ N ∧ Own w0 wx (RWtr g (bs ++ toksB L D (l.take k)) :: slc 3 1 (.slice (some ⟨b4, o4, none⟩) m c4) m (nums (codesF D)) :: slc 3 1 (.slice (some ⟨b2, o2, none⟩) n c2) n (nums (codesF L)) :: ps)) (fun s12 _ => N - (intOf s12).toNat)
  case atStart => exact ⟨0, by go_num, by omega, by simpa [toksB] using H⟩
  case round =>
    clear H
    obtain ⟨k, rfl, hk, H⟩ := hrel
    have hlk := HL.out k
    obtain ⟨B, hB⟩ : ∃ B, Hid (bs ++ toksB L D (l.take k) = B) := ⟨_, rfl⟩
    have hBl : B.length ≤ 8796093000000 := by rw [← hB.out, List.length_append]; omega
    rw [hB.out] at H
    by_cases hlt : k < N
    · have hI : (k : Int) < (N : Int) := by omega
      obtain ⟨t, htk⟩ := get_of_lt (l := l) (k := k) (by rw [hN.out]; exact hlt)
      have hso := HS.out t (List.mem_of_getElem? htk)
      have hB2 : Hid (bs ++ toksB L D (l.take (k + 1)) = B ++ tbits L D t) := Lib.hid (by rw [toksB_succ htk, ← List.append_assoc, hB.out])
      obtain ⟨b, o, _, he2, -⟩ := (HT.out _ H.drop.drop.drop).some (by rw [rows_length tcell tcell_length, hN.out]; omega)
      cases he2
      obtain ⟨c0, cc1, cc2⟩ := tok_cells (HT.out _ H.drop.drop.drop) htk
      obtain ⟨x, y, z⟩ := t
      simp only at c0 cc1 cc2
      clear htk hlk
      go_upto_region 6 with (refine wpList_store_agg (vs := [.int .i64 x, .int .i64 y, .int .i64 z]) rfl _ _ rfl rfl (H.alloc _) rfl (by kernel_rfl) (by simp) (by simp; exact ⟨rfl, rfl, rfl⟩) rfl ?_; clear H; intro w5 H)
      generalize wr.heap.size = tb at *
      have H : Own w0 w5 (RWtr g B :: blk tb (.cells #[.int .i64 x, .int .i64 y, .int .i64 z] 65) :: slc 3 1 (.slice (some ⟨b4, o4, none⟩) m c4) m (nums (codesF D)) :: slc 3 1 (.slice (some ⟨b2, o2, none⟩) n c2) n (nums (codesF L)) :: ps) := H.swap
      clear c0 cc1 cc2
      have hok := hso.1
      have c0 := (H.front 1 rfl).cells
      by_cases hx : x = 0
      · subst hx
        have hz : 0 ≤ z ∧ z < 256 := by rcases hok with h | h <;> simp only at h <;> omega
        obtain ⟨s, rfl⟩ : ∃ s : Nat, z = s := ⟨z.toNat, by omega⟩
        have hsl : s < L.length := by have := hso.2.1 rfl; simpa using this
        have htb : tbits L D ⟨0, y, (s : Int)⟩ = cbits L s := by unfold tbits; rw [if_pos rfl, Int.toNat_natCast]
        rw [htb] at hB2
        have hco := (HCL.out.mono (qs := blk tb (.cells #[.int .i64 0, .int .i64 y, .int .i64 (s : Int)] 65) :: slc 3 1 (.slice (some ⟨b4, o4, none⟩) m c4) m (nums (codesF D)) :: slc 3 1 (.slice (some ⟨b2, o2, none⟩) n c2) n (nums (codesF L)) :: ps) fun w' h => h.drop)
        have hp := rcp (g := g) hco hsl B (by omega)
        have hcl := hco.cells hn.out.symm hn.out.symm hsl
        rw [hn.out] at hsl
        have hslI : (s : Int) < (n : Int) := by omega
        generalize L.getD s 0 = lx at *
        generalize codeF L s = cx at *
        have HP := Lib.hid hp
        have HCE := Lib.hid hcl
        clear hp hcl hco hso hok htb
        clear c0
        have c0 := (H.front 1 rfl).cells
        go_upto_region 7 with (fail)
        clear c0
        refine wp_region_calm (fun w1 => Own w0 w1 (RWtr g (B) :: blk tb (.cells #[.int .i64 0, .int .i64 y, .int .i64 (s : Int)] 65) :: slc 3 1 (.slice (some ⟨b4, o4, none⟩) m c4) m (nums (codesF D)) :: slc 3 1 (.slice (some ⟨b2, o2, none⟩) n c2) n (nums (codesF L)) :: ps)) 11 (by kernel_rfl) (by kernel_rfl) H.drew ?_
        simp only [List.take_succ_cons, List.take_zero, List.drop_succ_cons, List.drop_zero]
        repeat
          first
          | (refine calm_value (v := ?_) (by decide) rfl (fun σ w1 hS => ?_) ?_
             rotate_left
             · have c0 := (hS.front 1 rfl).cells; obtain ⟨cA, cB⟩ := HCE.out _ hS.drop
               first | (go_simp; rfl) | rfl
             simp only [Act.put, List.setIfInBounds_toArray, List.set_cons_zero, List.set_cons_succ])
          | (refine calm_skip (by decide) rfl ?_
             simp only [Act.put, List.setIfInBounds_toArray, List.set_cons_zero, List.set_cons_succ])
        refine calm_nil ?_
        intro wd HD
        clear H
        go_wp2_with fail
        refine (HP.out _ HD).mono ?_
        rintro e w9 ⟨_, rfl, H⟩
        clear HD

        have H : Own w0 w9 (RWtr g (B ++ cbits L s) :: slc 3 1 (.slice (some ⟨b4, o4, none⟩) m c4) m (nums (codesF D)) :: slc 3 1 (.slice (some ⟨b2, o2, none⟩) n c2) n (nums (codesF L)) :: ps) := (H.front 1 rfl).drop
        rw [← hB2.out] at H
        go_wp2_with fail
        go_roundw
        case rel => exact ⟨k + 1, by go_num, by omega, H⟩
        case measure => simp [intOf]; omega
      · have hxb : (x == 0) = false := by simpa using hx
        have hb : 3 ≤ x ∧ x ≤ 258 ∧ 1 ≤ y ∧ y ≤ 32768 := by rcases hok with h | h <;> simp only at h <;> omega
        obtain ⟨p, rfl⟩ : ∃ p : Nat, x = p := ⟨x.toNat, by omega⟩
        obtain ⟨q, rfl⟩ : ∃ q : Nat, y = q := ⟨y.toNat, by omega⟩
        obtain ⟨hs1, hs2⟩ := hso.2.2 hx
        simp only [Int.toNat_natCast] at hs1 hs2
        have hlb := lenSym_bd (n := p) (by omega)
        have hdb := distSym_bd (n := q) (by omega)
        have hln := rlength_any p (by omega) (by omega)
        have hdn := rdist_any q (by omega) (by omega)
        have htb : tbits L D ⟨(p : Int), (q : Int), z⟩ = cbits L (lenSym p).1 ++ (bitsOf (lenSym p).2.2 (lenSym p).2.1 ++ (cbits D (distSym q).1 ++ bitsOf (distSym q).2.2 (distSym q).2.1)) := by unfold tbits; rw [if_neg hx]; rfl
        rw [htb] at hB2
        obtain ⟨l1, l2, l3, hl1⟩ : ∃ l1 l2 l3, Hid (lenSym p = (l1, l2, l3)) := ⟨_, _, _, rfl⟩
        obtain ⟨d1, d2, d3, hd1⟩ : ∃ d1 d2 d3, Hid (distSym q = (d1, d2, d3)) := ⟨_, _, _, rfl⟩
        rw [hl1.out] at hs1 hlb hln hB2
        rw [hd1.out] at hs2 hdb hdn hB2
        simp only at hs1 hlb hln hB2 hs2 hdb hdn
        obtain ⟨-, -, hl2, hl3⟩ := hlb
        obtain ⟨-, hd2, hd3⟩ := hdb
        have hl3b : l3 < 32 := Nat.lt_of_lt_of_le hl3 (Nat.pow_le_pow_right (n := 2) (by omega) hl2)
        have hd3b : d3 < 8192 := Nat.lt_of_lt_of_le hd3 (Nat.pow_le_pow_right (n := 2) (by omega) hd2)
        have HB2 := hB2
        clear hl3 hd3 htb hl1 hd1 hso hok
        have hco := (HCL.out.mono (qs := blk tb (.cells #[.int .i64 (p : Int), .int .i64 (q : Int), .int .i64 z] 65) :: slc 3 1 (.slice (some ⟨b4, o4, none⟩) m c4) m (nums (codesF D)) :: slc 3 1 (.slice (some ⟨b2, o2, none⟩) n c2) n (nums (codesF L)) :: ps) fun w' h => h.drop)
        have hcd := (HCD.out.mono (qs := blk tb (.cells #[.int .i64 (p : Int), .int .i64 (q : Int), .int .i64 z] 65) :: slc 3 1 (.slice (some ⟨b4, o4, none⟩) m c4) m (nums (codesF D)) :: slc 3 1 (.slice (some ⟨b2, o2, none⟩) n c2) n (nums (codesF L)) :: ps) fun w' h => h.drop)
        have k1 := rcp (g := g) hco hs1 B (by omega)
        have e1 := hco.cells hn.out.symm hn.out.symm hs1
        have bd1 := (HCB.out l1).1
        have k2 := fun w1 (h : Own w0 w1 (RWtr g (B ++ cbits L l1) :: blk tb (.cells #[.int .i64 (p : Int), .int .i64 (q : Int), .int .i64 z] 65) :: slc 3 1 (.slice (some ⟨b4, o4, none⟩) m c4) m (nums (codesF D)) :: slc 3 1 (.slice (some ⟨b2, o2, none⟩) n c2) n (nums (codesF L)) :: ps)) => rput_any (l3 : Int) (l2 : Int) (by omega) h (by rw [List.length_append]; omega)
        rw [cut_eq (by omega) (by omega), Int.toNat_natCast] at k2
        have k3 := rcp (g := g) hcd hs2 (B ++ cbits L l1 ++ bitsOf l3 l2) (by rw [List.length_append, List.length_append, bitsOf_length]; omega)
        have e3 := hcd.cells hm.out.symm hm.out.symm hs2
        have bd2 := (HCB.out d1).2
        have k4 := fun w1 (h : Own w0 w1 (RWtr g (B ++ cbits L l1 ++ bitsOf l3 l2 ++ cbits D d1) :: blk tb (.cells #[.int .i64 (p : Int), .int .i64 (q : Int), .int .i64 z] 65) :: slc 3 1 (.slice (some ⟨b4, o4, none⟩) m c4) m (nums (codesF D)) :: slc 3 1 (.slice (some ⟨b2, o2, none⟩) n c2) n (nums (codesF L)) :: ps)) => rput_any (d3 : Int) (d2 : Int) (by omega) h (by rw [List.length_append, List.length_append, List.length_append, bitsOf_length]; omega)
        rw [cut_eq (by omega) (by omega), Int.toNat_natCast] at k4
        rw [hn.out] at hs1
        rw [hm.out] at hs2
        have hs1I : (l1 : Int) < (n : Int) := by omega
        have hs2I : (d1 : Int) < (m : Int) := by omega
        generalize L.getD l1 0 = lx at *
        generalize codeF L l1 = cx at *
        generalize D.getD d1 0 = dx at *
        generalize codeF D d1 = cdx at *
        have K1 := Lib.hid k1
        have K2 := Lib.hid k2
        have K3 := Lib.hid k3
        have K4 := Lib.hid k4
        have E1 := Lib.hid e1
        have E3 := Lib.hid e3
        have LN := Lib.hid hln
        have DN := Lib.hid hdn
        clear k1 k2 k3 k4 e1 e3 hln hdn bd1 bd2 hco hcd
        go_wp2_with fail
        refine (LN.out _).mono ?_
        rintro e w6 ⟨_, rfl, rfl, H6⟩
        replace H := H.join H6
        clear H6 c0
        have H : Own w0 w6 (RWtr g B :: blk tb (.cells #[.int .i64 (p : Int), .int .i64 (q : Int), .int .i64 z] 65) :: slc 3 1 (.slice (some ⟨b4, o4, none⟩) m c4) m (nums (codesF D)) :: slc 3 1 (.slice (some ⟨b2, o2, none⟩) n c2) n (nums (codesF L)) :: ps) := H
        have c0 := (H.front 1 rfl).cells
        clear c0
        go_upto_region 9 with (fail)
        refine wp_region_calm (fun w1 => Own w0 w1 (RWtr g (B) :: blk tb (.cells #[.int .i64 (p : Int), .int .i64 (q : Int), .int .i64 z] 65) :: slc 3 1 (.slice (some ⟨b4, o4, none⟩) m c4) m (nums (codesF D)) :: slc 3 1 (.slice (some ⟨b2, o2, none⟩) n c2) n (nums (codesF L)) :: ps)) 9 (by kernel_rfl) (by kernel_rfl) H.drew ?_
        simp only [List.take_succ_cons, List.take_zero, List.drop_succ_cons, List.drop_zero]
        repeat
          first
          | (refine calm_value (v := ?_) (by decide) rfl (fun σ w1 hS => ?_) ?_
             rotate_left
             · obtain ⟨cA, cB⟩ := E1.out _ hS.drop
               first | (go_simp; rfl) | rfl
             simp only [Act.put, List.setIfInBounds_toArray, List.set_cons_zero, List.set_cons_succ])
          | (refine calm_skip (by decide) rfl ?_
             simp only [Act.put, List.setIfInBounds_toArray, List.set_cons_zero, List.set_cons_succ])
        refine calm_nil ?_
        intro wd HD
        clear H
        go_wp2_with fail
        refine (K1.out _ HD).mono ?_
        rintro e w7 ⟨_, rfl, H⟩
        clear HD
        have c0 := (H.front 1 rfl).cells
        go_wp2_with fail
        refine (K2.out _ H).mono ?_
        rintro e w8 ⟨_, rfl, H8⟩
        clear H c0
        have c0 := (H8.front 1 rfl).cells
        go_wp2_with fail
        refine (DN.out _).mono ?_
        rintro e w9 ⟨_, rfl, rfl, H6⟩
        have H : Own w0 w9 (RWtr g (B ++ cbits L l1 ++ bitsOf l3 l2) :: blk tb (.cells #[.int .i64 (p : Int), .int .i64 (q : Int), .int .i64 z] 65) :: slc 3 1 (.slice (some ⟨b4, o4, none⟩) m c4) m (nums (codesF D)) :: slc 3 1 (.slice (some ⟨b2, o2, none⟩) n c2) n (nums (codesF L)) :: ps) := H8.join H6
        clear H6 H8 c0
        have c0 := (H.front 1 rfl).cells
        clear c0
        go_upto_region 12 with (fail)
        refine wp_region_calm (fun w1 => Own w0 w1 (RWtr g (B ++ cbits L l1 ++ bitsOf l3 l2) :: blk tb (.cells #[.int .i64 (p : Int), .int .i64 (q : Int), .int .i64 z] 65) :: slc 3 1 (.slice (some ⟨b4, o4, none⟩) m c4) m (nums (codesF D)) :: slc 3 1 (.slice (some ⟨b2, o2, none⟩) n c2) n (nums (codesF L)) :: ps)) 9 (by kernel_rfl) (by kernel_rfl) H.drew ?_
        simp only [List.take_succ_cons, List.take_zero, List.drop_succ_cons, List.drop_zero]
        repeat
          first
          | (refine calm_value (v := ?_) (by decide) rfl (fun σ w1 hS => ?_) ?_
             rotate_left
             · obtain ⟨cA, cB⟩ := E3.out _ hS.drop
               first | (go_simp; rfl) | rfl
             simp only [Act.put, List.setIfInBounds_toArray, List.set_cons_zero, List.set_cons_succ])
          | (refine calm_skip (by decide) rfl ?_
             simp only [Act.put, List.setIfInBounds_toArray, List.set_cons_zero, List.set_cons_succ])
        refine calm_nil ?_
        intro wd HD
        clear H
        go_wp2_with fail
        refine (K3.out _ HD).mono ?_
        rintro e w10 ⟨_, rfl, H⟩
        clear HD
        have c0 := (H.front 1 rfl).cells
        go_wp2_with fail
        refine (K4.out _ H).mono ?_
        rintro e w11 ⟨_, rfl, H11⟩
        clear H c0
        have H : Own w0 w11 (RWtr g (B ++ cbits L l1 ++ bitsOf l3 l2 ++ cbits D d1 ++ bitsOf d3 d2) :: slc 3 1 (.slice (some ⟨b4, o4, none⟩) m c4) m (nums (codesF D)) :: slc 3 1 (.slice (some ⟨b2, o2, none⟩) n c2) n (nums (codesF L)) :: ps) := (H11.front 1 rfl).drop
        simp only [List.append_assoc] at H
        rw [← HB2.out] at H
        clear H11
        go_wp2_with fail
        go_roundw
        case rel => exact ⟨k + 1, by go_num, by omega, H⟩
        case measure => simp [intOf]; omega
    · have hI : ¬ (k : Int) < (N : Int) := by omega
      have hlall : l.take k = l := List.take_of_length_le (by rw [hN.out]; omega)
      rw [hlall] at hB
      have hfin : Hid (bs ++ bodyB L D l = B ++ cbits L 256) := Lib.hid (by unfold bodyB; rw [← List.append_assoc, hB.out])
      have hp := rcp (g := g) HCL.out (s := 256) (by rw [hn.out]; exact he) B (by omega)
      have hcl := HCL.out.cells hn.out.symm hn.out.symm (s := 256) (by rw [hn.out]; exact he)
      have heI : (256 : Int) < (n : Int) := by omega
      generalize L.getD 256 0 = lx at *
      generalize codeF L 256 = cx at *
      have HP := Lib.hid hp
      have HCE := Lib.hid hcl
      clear hp hcl hlk
      go_upto_region 14 with (fail)
      refine wp_region_calm (fun w1 => Own w0 w1 (RWtr g B :: slc 3 1 (.slice (some ⟨b4, o4, none⟩) m c4) m (nums (codesF D)) :: slc 3 1 (.slice (some ⟨b2, o2, none⟩) n c2) n (nums (codesF L)) :: ps)) 7 (by kernel_rfl) (by kernel_rfl) H.drew ?_
      simp only [List.take_succ_cons, List.take_zero, List.drop_succ_cons, List.drop_zero]
      repeat
        first
        | (refine calm_value (v := ?_) (by decide) rfl (fun σ w1 hS => ?_) ?_
           rotate_left
           · obtain ⟨cA, cB⟩ := HCE.out _ hS.drop
             first | (go_simp; rfl) | rfl
           simp only [Act.put, List.setIfInBounds_toArray, List.set_cons_zero, List.set_cons_succ])
        | (refine calm_skip (by decide) rfl ?_
           simp only [Act.put, List.setIfInBounds_toArray, List.set_cons_zero, List.set_cons_succ])
      refine calm_nil ?_
      intro wd HD
      clear H
      go_wp2_with fail
      refine (HP.out _ HD).mono ?_
      rintro e w9 ⟨_, rfl, H⟩
      clear HD
      go_wp2_with fail
      go_end0
      rw [hfin.out]
      exact ⟨_, rfl, (((H.front 2 rfl).front 2 rfl).drop.drop)⟩
end Go.Proofs.Yteoecchggjmffaa
/- flate: the walk of the document's fixed codes. -/
namespace Go.Proofs.Yteoecchggjmffaa
open Go.RowKit

theorem fixL_get : ∀ i : Fin 288, fixL.getD i.1 0 = if i.1 < 144 then 8 else if i.1 < 256 then 9 else if i.1 < 280 then 7 else 8 := by decide +kernel
theorem fixL_take (k : Nat) (h : k < 288) : fixL.take (k + 1) = fixL.take k ++ [fixL.getD k 0] := by
  rw [List.take_add_one, getD_get (by rw [fixL_ok.1]; exact h)]; rfl
theorem fixD_take (k : Nat) (h : k < 32) : fixD.take (k + 1) = fixD.take k ++ [5] := by
  rw [List.take_add_one, getD_get (by rw [fixD_ok.1]; exact h), (show ∀ i : Fin 32, fixD.getD i.1 0 = 5 by decide +kernel) ⟨k, h⟩]; rfl
set_option maxRecDepth 100000 in
set_option maxHeartbeats 1600000 in
theorem rfixed_any (w : World) : Calls Try.prog 16 #[] w (Ret fun r w' => ∃ v u, r = .tuple #[v, u] ∧ Own w w' [slc 3 1 u 32 (nums fixD), slc 3 1 v 288 (nums fixL)]) := by
  have H := (Own.start w).nil 3 1
  go_enter Try.func16, Try.ntmps16
  go_wp2_with fail
  go_loopw [2, 4] (fun s2 s4 wx => ∃ k : Nat, s4 = .int .i64 k ∧ k ≤ 288 ∧ Own w wx [slc 3 1 s2 k (nums (fixL.take k))]) (fun _ s4 _ => 288 - (intOf s4).toNat)
  case atStart => exact ⟨0, by go_num, by omega, H⟩
  case round =>
    clear H
    obtain ⟨k, rfl, hk, H⟩ := hrel
    obtain ⟨a2, c2, rfl, -⟩ := H.rd.shape
    by_cases hlt : k < 288
    · have hI : (k : Int) < 288 := by omega
      have hg := fixL_get ⟨k, hlt⟩
      have ht := fixL_take k hlt
      simp only at hg
      have hn : ∀ n : Int, fixL.getD k 0 = n → Hid (nums (fixL.take k) ++ [.int .i64 n] = nums (fixL.take (k + 1))) := fun n h => Lib.hid (by rw [ht, h]; simp [nums])
      have hw : IntKind.i64.wrap ((k : Int) + 1) = (k : Int) + 1 := IntWalk.i64_in _ ⟨by omega, by omega⟩
      have fin : ∀ (n : Int), fixL.getD k 0 = n → n = 8 ∨ n = 9 ∨ n = 7 := by intro n h; rw [hg] at h; split at h <;> (try split at h) <;> (try split at h) <;> omega
      clear fin
      by_cases h1 : k < 144
      case' pos =>
        rw [if_pos h1] at hg
        have HN := hn 8 hg
        have e1 : ¬ 144 ≤ (k : Int) := by omega
        have e2 : ¬ 256 ≤ (k : Int) := by omega
      case' neg =>
        rw [if_neg h1] at hg
        have e1 : 144 ≤ (k : Int) := by omega
        by_cases h2 : k < 256
        case' pos =>
          rw [if_pos h2] at hg
          have HN := hn 9 hg
          have e2 : (k : Int) < 256 := by omega
        case' neg =>
          rw [if_neg h2] at hg
          have e2 : ¬ (k : Int) < 256 := by omega
          by_cases h3 : k < 280
          case' pos =>
            rw [if_pos h3] at hg
            have HN := hn 7 hg
            have e3 : (k : Int) < 280 := by omega
          case' neg =>
            rw [if_neg h3] at hg
            have HN := hn 8 hg
            have e3 : ¬ (k : Int) < 280 := by omega
      all_goals
        clear hg ht hn
        go_wp2_with (at_builtin; refine wpList_append_one rfl _ _ rfl Try.underlying26 intInfo rfl (by decide) rfl H (news := [.int .i64 _]) rfl rfl rfl (by simp [Value.oneCell']) (by omega) (by omega) ?_; clear H; intro v' w' H; rw [HN.out] at H; obtain ⟨a4, c4, rfl, -⟩ := H.rd.shape)
        go_roundw
        case rel => exact ⟨k + 1, by go_num, by omega, H⟩
        case measure => simp [intOf]; omega
    · obtain rfl : k = 288 := by omega
      have hI : ¬ (((288 : Nat) : Int) < 288) := by omega
      rw [List.take_of_length_le (by rw [fixL_ok.1]; exact Nat.le_refl _)] at H
      replace H := H.nil 3 1
      go_wp2_with fail
      go_loopw [3, 6] (fun s3 s6 wx => ∃ k : Nat, s6 = .int .i64 k ∧ k ≤ 32 ∧ Own w wx [slc 3 1 s3 k (nums (fixD.take k)), slc 3 1 (.slice a2 288 c2) 288 (nums fixL)]) (fun _ s6 _ => 32 - (intOf s6).toNat)
      case atStart => exact ⟨0, by go_num, by omega, H⟩
      case round =>
        clear H hk
        obtain ⟨k, rfl, hk, H⟩ := hrel
        obtain ⟨a3, c3, rfl, -⟩ := H.rd.shape
        by_cases hlt : k < 32
        · have hI : (k : Int) < 32 := by omega
          have HN : Hid (nums (fixD.take k) ++ [.int .i64 5] = nums (fixD.take (k + 1))) := Lib.hid (by rw [fixD_take k hlt]; simp [nums])
          go_wp2_with (at_builtin; refine wpList_append_one rfl _ _ rfl Try.underlying26 intInfo rfl (by decide) rfl H (news := [.int .i64 5]) rfl rfl rfl (by simp [Value.oneCell']) (by omega) (by omega) ?_; clear H; intro v' w' H; rw [HN.out] at H; obtain ⟨a4, c4, rfl, -⟩ := H.rd.shape)
          go_roundw
          case rel => exact ⟨k + 1, by go_num, by omega, H⟩
          case measure => simp [intOf]; omega
        · obtain rfl : k = 32 := by omega
          have hI : ¬ (((32 : Nat) : Int) < 32) := by omega
          rw [List.take_of_length_le (by rw [fixD_ok.1]; exact Nat.le_refl _)] at H
          go_wp2_with fail
          go_ret2
          exact ⟨_, rfl, _, _, rfl, H⟩
end Go.Proofs.Yteoecchggjmffaa
/- lz: the walk of the document's Parse. -/
namespace Go.Proofs.Yteoecchggjmffaa
open Go.RowKit Go.Maps

set_option maxRecDepth 100000 in
set_option maxHeartbeats 3200000 in
theorem refparse_any {w0 w : World} {ps : List Piece} {s : ByteArray} (H : Own w0 w ps) (hs : s.size ≤ 1000000) :
    Calls Try.prog 44 #[.string s] w (Ret fun v w' => Own w0 w' (slc 65 3 v (parse s).length (rows tcell (parse s)) :: ps)) := by
  obtain ⟨W, hW⟩ : ∃ W, Hid (parseN s s.size 0 = W) := ⟨_, rfl⟩
  have hp : Hid (parse s = W) := Lib.hid hW.out
  rw [hp.out]
  replace H := H.nil 65 3
  go_enter Try.func44, Try.ntmps44
  go_wp2_with fail
  go_loopw [3, 4] (fun s3 s4 wr => ∃ (i f : Nat) (l : List Tok), s4 = .int .i64 i ∧ i ≤ s.size ∧ s.size ≤ i + f ∧ Hid (l ++ parseN s f i = W) ∧ l.length ≤ i ∧ Own w0 wr (slc 65 3 s3 l.length (rows tcell l) :: ps)) (fun _ s4 _ => s.size - (intOf s4).toNat)
  case atStart => exact ⟨0, s.size, [], by simp, by omega, by omega, hW, by simp, H⟩
  case round =>
    clear H
    obtain ⟨i, f, l, rfl, hi, hf, hl, hll, H⟩ := hrel
    by_cases hlt : i < s.size
    · have hltI : (i : Int) < (s.size : Int) := by omega
      obtain ⟨f, rfl⟩ : ∃ f', f = f' + 1 := ⟨f - 1, by omega⟩
      have hpn : parseN s (f + 1) i = tokAt s i :: parseN s f (i + stepAt s i) := by rw [parseN, if_pos hlt]
      have hsl := stepAt_le hlt
      have hsp := stepAt_pos s i
      have hst : Hid (stepAt s i = if 3 ≤ (trim (best s i (min i 4096))).1 then (trim (best s i (min i 4096))).1 else 1) := Lib.hid rfl
      have htk : Hid (tokAt s i = if 3 ≤ (trim (best s i (min i 4096))).1 then ⟨(trim (best s i (min i 4096))).1, (trim (best s i (min i 4096))).2, 0⟩ else ⟨0, 0, (byt s i).toNat⟩) := Lib.hid rfl
      obtain ⟨m, hm⟩ : ∃ m, Hid (stepAt s i = m) := ⟨_, rfl⟩
      obtain ⟨t, ht⟩ : ∃ t, Hid (tokAt s i = t) := ⟨_, rfl⟩
      rw [hm.out] at hst hpn hsl hsp
      rw [ht.out] at htk hpn
      have hl2 : Hid ((l ++ [t]) ++ parseN s f (i + m) = W) := Lib.hid (by rw [← hl.out, hpn]; simp)
      clear hl hpn
      have e0 := byt_is hlt
      have hx8 := (byt s i).toNat_lt
      have hwx : wrap64 (((byt s i).toNat : Nat) : Int) = (((byt s i).toNat : Nat) : Int) := IntWalk.wrap64_in _ ⟨by omega, by omega⟩
      go_wp2_with fail
      go_loopw [5, 6, 7] (fun s5 s6 s7 wr => ∃ a b d : Nat, s5 = .int .i64 a ∧ s6 = .int .i64 b ∧ s7 = .int .i64 ((d + 1 : Nat) : Int) ∧ d ≤ min i 4096 ∧ Hid (best s i d = (a, b)) ∧ Own w0 wr (slc 65 3 u3 l.length (rows tcell l) :: ps)) (fun _ _ s7 _ => 5000 - (intOf s7).toNat)
      case atStart => exact ⟨0, 0, 0, by simp, by simp, by simp, by omega, Lib.hid rfl, H⟩
      case round =>
        clear H
        obtain ⟨a, b, d, rfl, rfl, rfl, hd, hab, H⟩ := hrel
        have hd1 := (best_far s i d).2.2
        rw [hab.out] at hd1
        simp only at hd1
        by_cases hdm : d + 1 ≤ min i 4096
        · have hdi : (d : Int) + 1 ≤ (i : Int) := by omega
          have hd4 : (d : Int) + 1 ≤ 4096 := by omega
          obtain ⟨x, hx⟩ : ∃ x, Hid (i - (d + 1) = x) := ⟨_, rfl⟩
          have hxI : (i : Int) - ((d : Int) + 1) = (x : Int) := by have := hx.out; omega
          have hxi : x ≤ i := by have := hx.out; omega
          have hbs : Hid (best s i (d + 1) = if a < comm s x i then (comm s x i, d + 1) else (a, b)) := Lib.hid (by rw [best, hab.out, hx.out])
          obtain ⟨n, hn⟩ : ∃ n, Hid (comm s x i = n) := ⟨_, rfl⟩
          have hbs' := hbs.out
          rw [hn.out] at hbs'
          clear hbs
          go_wp2_with fail
          refine (common_any H hxi hi hs).mono ?_
          rintro e w1 ⟨_, rfl, rfl, H1⟩
          rw [hn.out]
          clear H
          by_cases han : a < n
          · have hanI : (a : Int) < (n : Int) := by omega
            rw [if_pos han] at hbs'
            have HB := Lib.hid hbs'
            clear hbs'
            go_wp2_with fail
            go_roundw
            case rel => exact ⟨n, d + 1, d + 1, by go_num, by go_num, by go_num, by omega, HB, H1⟩
            case measure => simp [intOf]; omega
          · have hanI : ¬ (a : Int) < (n : Int) := by omega
            rw [if_neg han] at hbs'
            have HB := Lib.hid hbs'
            clear hbs'
            go_wp2_with fail
            go_roundw
            case rel => exact ⟨a, b, d + 1, by go_num, by go_num, by go_num, by omega, HB, H1⟩
            case measure => simp [intOf]; omega
        · have hde : d = min i 4096 := by omega
          have hst' := hst.out
          have htk' := htk.out
          rw [← hde, hab.out] at hst' htk'
          by_cases ha3 : 3 ≤ a
          · have ha3I : ¬ (a : Int) < 3 := by omega
            have et : trim (a, b) = (a, b) := by unfold trim; rw [if_pos ha3]
            rw [et, if_pos ha3] at hst' htk'
            simp only at hst'
            have HT := Lib.hid htk'
            clear htk' et hst htk hde hab
            by_cases hdi : d + 1 ≤ i
            case' pos =>
              have hdiI : (d : Int) + 1 ≤ (i : Int) := by omega
              have hd4 : ¬ (d : Int) + 1 ≤ 4096 := by omega
            case' neg =>
              have hdiI : ¬ (d : Int) + 1 ≤ (i : Int) := by omega
            all_goals
              go_wp2_with (at_builtin; refine wpList_append_one rfl _ _ rfl Try.underlying37 tokInfo rfl (by decide) rfl H (news := tcell ⟨a, b, 0⟩) rfl rfl rfl (tcell_one _) (by omega) (by omega) ?_; clear H; intro v' w7 H)
              go_roundw
              case rel =>
                rw [hst'] at hsl hl2 hsp
                rw [HT.out] at hl2
                refine ⟨i + a, f, l ++ [⟨a, b, 0⟩], by go_num, by omega, by omega, hl2, by simp; omega, ?_⟩
                rw [rows_append, rows_one, List.length_append]
                exact H
              case measure => simp [intOf]; omega
          · have ha3I : (a : Int) < 3 := by omega
            have et : trim (a, b) = (0, 0) := by unfold trim; rw [if_neg ha3]
            rw [et, if_neg (by decide)] at hst' htk'
            have HT := Lib.hid htk'
            clear htk' et hst htk hde hab
            by_cases hdi : d + 1 ≤ i
            case' pos =>
              have hdiI : (d : Int) + 1 ≤ (i : Int) := by omega
              have hd4 : ¬ (d : Int) + 1 ≤ 4096 := by omega
            case' neg =>
              have hdiI : ¬ (d : Int) + 1 ≤ (i : Int) := by omega
            all_goals
              go_wp2_with (at_builtin; refine wpList_append_one rfl _ _ rfl Try.underlying37 tokInfo rfl (by decide) rfl H (news := tcell ⟨0, 0, (byt s i).toNat⟩) rfl rfl rfl (tcell_one _) (by omega) (by omega) ?_; clear H; intro v' w7 H)
              go_roundw
              case rel =>
                rw [hst'] at hsl hl2 hsp
                rw [HT.out] at hl2
                refine ⟨i + 1, f, l ++ [⟨0, 0, (byt s i).toNat⟩], by go_num, by omega, by omega, hl2, by simp; omega, ?_⟩
                rw [rows_append, rows_one, List.length_append]
                exact H
              case measure => simp [intOf]; omega
    · have hltI : ¬ (i : Int) < (s.size : Int) := by omega
      have hfin : Hid (l = W) := Lib.hid (by rw [← hl.out, parseN_end (by omega)]; simp)
      clear hl
      go_wp2
      go_ret
      refine ⟨_, rfl, ?_⟩
      rw [← hfin.out]
      exact H
end Go.Proofs.Yteoecchggjmffaa
/- Bits: the document's new writer. -/
namespace Go.Proofs.Yteoecchggjmffaa
open Go.RowKit

theorem Own.newRWtr {w0 w : World} {ps : List Piece} (H : Own w0 w ps) : Own w0 (w.alloc (.cells #[.slice none 0 0] 51)) (RWtr w.heap.size [] :: ps) := by
  have h := (H.alloc (.cells #[.slice none 0 0] 51)).nil 3 1
  exact Own.unrwtr h.swap rfl rfl
end Go.Proofs.Yteoecchggjmffaa
/- Bits: the document's Bytes. (Picked out of others by tools/pick.py.) -/
namespace Go.Proofs.Yteoecchggjmffaa
open Go.RowKit

set_option maxHeartbeats 800000 in
theorem rbytes_gen {w0 w : World} {ps : List Piece} {g n c : Nat} {a : Option Addr} {bs : List Bool} (H : Own w0 w (blk g (.cells #[.slice a n c] 51) :: slc 3 1 (.slice a n c) n (intBits bs) :: ps)) (hn : Hid (bs.length = n)) (hl : n ≤ 8796093022000) (hc1 : n ≤ c) (hc2 : c ≤ 9223372036854775807) :
    Calls Try.prog 42 #[.pointer (some ⟨g, 0, none⟩)] w (Ret fun v w' => v = .string (textOf bs) ∧ Own w0 w' (blk g (.cells #[.slice a n c] 51) :: slc 3 1 (.slice a n c) n (intBits bs) :: ps)) := by
  go_enter Try.func42, Try.ntmps42
  go_wp2_with fail
  go_loopw [3, 4] (fun v i wx => ∃ k : Nat, k ≤ n ∧ i = .int .i64 k ∧ Own w0 wx (slc 5 1 v (nbytes k) (u8s (bytesOf (bs.take k))) :: blk g (.cells #[.slice a n c] 51) :: slc 3 1 (.slice a n c) n (intBits bs) :: ps)) (fun _ i _ => n - (intOf i).toNat)
  case atStart => exact ⟨0, Nat.zero_le _, rfl, by simpa [nbytes, bytesOf, u8s] using H.nil 5 1⟩
  case round =>
    clear H
    obtain ⟨k, hk, rfl, H⟩ := hrel
    obtain ⟨a1, cp1, rfl, hd1, hd2⟩ := H.rd.shape
    replace H := (H.swap.front 2 rfl).swap
    have c0 := H.cells
    by_cases hlt : k < n
    · obtain ⟨r, hr⟩ : ∃ r, Hid (r = k % 8) := ⟨_, Lib.hid rfl⟩
      obtain ⟨q, hq⟩ : ∃ q, Hid (q = k / 8) := ⟨_, Lib.hid rfl⟩
      have hrt : (k : Int).tmod 8 = (r : Int) := by have := hr.out; rw [Int.tmod_eq_emod_of_nonneg (by omega)]; omega
      have hqt : (k : Int).tdiv 8 = (q : Int) := by have := hq.out; rw [Int.tdiv_eq_ediv_of_nonneg (by omega)]; omega
      have hrt' : (k : Int) % 8 = (r : Int) := by have := hr.out; omega
      have hqt' : (k : Int) / 8 = (q : Int) := by have := hq.out; omega
      have hr8 : r < 8 := by have := hr.out; omega
      obtain ⟨b, hb⟩ : ∃ b, Hid (bs[k]? = some b) := ⟨bs[k]'(by rw [hn.out]; exact hlt), Lib.hid (List.getElem?_eq_getElem _)⟩
      have htk : Hid (bs.take (k + 1) = bs.take k ++ [b]) := Lib.hid (by rw [List.take_add_one, hb.out]; rfl)
      have htl : (bs.take k).length = k := by rw [List.length_take, hn.out]; omega
      have hsn := Lib.hid (bytesOf_snoc (bs.take k) b)
      have htl := Lib.hid htl
      go_upto_if 16 with (fail)
      go_cut [3] (fun s3 wx => ∃ a1 cp1 N L, s3 = .slice a1 N cp1 ∧ Hid (N = nbytes (k + 1)) ∧ N ≤ cp1 ∧ cp1 ≤ 9223372036854775807 ∧ Hid (L = if (bs.take k).length % 8 = 0 then bytesOf (bs.take k) ++ [0] else bytesOf (bs.take k)) ∧
        Own w0 wx (slc 5 1 (.slice a1 N cp1) N (u8s L) :: blk g (.cells #[.slice a n c] 51) :: slc 3 1 (.slice a n c) n (intBits bs) :: ps))
      case first =>
        by_cases h0 : r = 0
        · subst h0
          replace H := H.front 2 rfl
          go_wp2_with (at_builtin; refine wpList_append_one rfl _ _ rfl Try.underlying32 u8Info rfl (by decide) rfl H rfl rfl rfl (by simp [Value.oneCell']) (by unfold nbytes; omega) (by unfold nbytes; omega) ?_; clear H c0; intro v' w' H; obtain ⟨a', c', rfl, h1', h2'⟩ := H.rd.shape)
          go_meet
          refine ⟨a', c', nbytes k + 1, bytesOf (bs.take k) ++ [0], rfl, Lib.hid (by have := hr.out; unfold nbytes; omega), h1', h2', Lib.hid (by rw [if_pos (by rw [htl.out]; have := hr.out; omega)]), ?_⟩
          simpa [u8s] using H
        · have h0' : ((r : Int) == 0) = false := by simpa using h0
          go_wp2
          go_meet
          exact ⟨a1, cp1, nbytes k, bytesOf (bs.take k), rfl, Lib.hid (by have := hr.out; unfold nbytes; omega), hd1, hd2, Lib.hid (by rw [if_neg (by rw [htl.out]; have := hr.out; omega)]), H.front 2 rfl⟩
      case rest =>
        clear H c0
        obtain ⟨a1, cp1, N, L, rfl, hN, hd1, hd2, hL, H⟩ := hcut
        have hfin := hsn.out L hL.out
        rw [htl.out, ← hq.out, ← hr.out, ← htk.out] at hfin
        obtain ⟨k1, k2, k3⟩ := hfin
        have hx0 := (byteAt_bd (bs.take k) q).1
        have hx1 := byteAt_bd' (bs.take k)
        rw [htl.out, ← hq.out, ← hr.out] at hx1
        obtain ⟨x, hx⟩ : ∃ x, Hid (byteAt (bs.take k) q = x) := ⟨_, rfl⟩
        rw [hx.out] at hx0 hx1 k2 k3
        have hqN : q < N := by have := hN.out; have := hq.out; unfold nbytes at *; omega
        have hqN' : (q : Int) < (N : Int) := by omega
        have hwq : IntKind.i64.wrap (q : Int) = q := IntWalk.i64_in _ ⟨by omega, by omega⟩
        have hwr : IntKind.i64.wrap (r : Int) = r := IntWalk.i64_in _ ⟨by omega, by omega⟩
        have hlen : 0 < (u8s L).length := by have := hN.out; simp [u8s]; omega
        obtain ⟨g2, _, e, _⟩ := H.at hlen
        cases e
        have hu : Hid ((u8s L)[q]? = some (.int .u8 x)) := Lib.hid (by simp [u8s, k2])
        have hlen2 : 0 < (intBits bs).length := by simp [intBits]; rw [hn.out]; omega
        obtain ⟨g3, _, e, _, _, _, _, hbk, _⟩ := (H.front 2 rfl).at hlen2
        cases e
        have c0 := (H.front 1 rfl).cells
        have cb := hbk k (.int .i64 (bi b)) (by simp [intBits, hb.out])
        clear hbk
        cases b
        · simp only [bi] at cb
          go_wp2
          go_roundw
          case rel => exact ⟨k + 1, by omega, by go_num, by
            have hqL : q < L.length := (List.getElem?_eq_some_iff.1 k2).1
            have e2 : L.set q (x + 2 ^ r * bi false) = L := by
              have hxq : x + 2 ^ r * bi false = L[q] := by rw [(List.getElem?_eq_some_iff.1 k2).2]; simp [bi]
              rw [hxq]
              exact List.set_getElem_self hqL
            rw [k3, e2, ← hN.out]
            exact H⟩
          case measure => simp [intOf]; omega
        · simp only [bi] at cb
          have h1 : x + 2 ^ r * bi true = x + 2 ^ r := by simp [bi]
          rw [h1] at k3
          have hor := or8' hr8 hx0 hx1
          obtain ⟨y, hy⟩ : ∃ y, Hid (x + 2 ^ r = y) := ⟨_, rfl⟩
          rw [hy.out] at hor k3
          go_upto_region 8 with (fail)
          refine wp_region_calm (fun w1 => Own w0 w1 (slc 5 1 (.slice (some ⟨g2, 0, none⟩) N cp1) N (u8s L) :: blk g (.cells #[.slice (some ⟨g3, 0, none⟩) n c] 51) :: slc 3 1 (.slice (some ⟨g3, 0, none⟩) n c) n (intBits bs) :: ps)) 12 (by kernel_rfl) (by kernel_rfl) H.drew ?_
          simp only [List.take_succ_cons, List.take_zero, List.drop_succ_cons, List.drop_zero]
          repeat
            refine calm_value (v := ?_) (by decide) rfl (fun σ w1 hS => ?_) ?_; rotate_left
            · obtain ⟨_, _, e, _, _, _, _, c1, _⟩ := hS.at hlen
              cases e
              replace c1 := c1 q _ hu.out
              first | (go_simp; rfl) | rfl
            simp only [Act.put, List.setIfInBounds_toArray, List.set_cons_zero, List.set_cons_succ]
          refine calm_nil ?_
          intro wd HD
          clear H
          go_wp2_with (refine wpList_store_slc rfl _ _ rfl rfl HD (.int .u8 y) rfl (by kernel_rfl) hqN rfl ?_; clear HD; intro w2 HD)
          go_roundw
          case rel => exact ⟨k + 1, by omega, by go_num, by
            rw [k3, ← hN.out]
            simpa [u8s] using HD⟩
          case measure => simp [intOf]; omega
    · obtain rfl : k = n := by omega
      rw [List.take_of_length_le (by rw [hn.out]; exact Nat.le_refl _)] at H
      have hs := run_string_sep (P := Try.prog) 32 9 Try.underlying32 Try.underlying5 Try.underlying9 (H.front 2 rfl).rd
      rw [show strOfNums (bytesOf bs) = textOf bs from rfl] at hs
      have H2 : Own w0 wr (blk g (.cells #[.slice a k c] 51) :: slc 3 1 (.slice a k c) k (intBits bs) :: ps) := ((H.front 2 rfl).drop)
      clear H
      go_wp2
      go_ret
      exact ⟨_, rfl, rfl, H2⟩
theorem rbytes_any {w0 w : World} {ps : List Piece} {g : Nat} {bs : List Bool} (H : Own w0 w (RWtr g bs :: ps)) (hl : bs.length ≤ 8796093022000) :
    Calls Try.prog 42 #[.pointer (some ⟨g, 0, none⟩)] w (Ret fun v w' => v = .string (textOf bs) ∧ Own w0 w' (RWtr g bs :: ps)) := by
  obtain ⟨a, c, hc1, hc2, H⟩ := H.rwtr
  refine (rbytes_gen H (Lib.hid rfl) hl hc1 hc2).mono ?_
  rintro e w2 ⟨v, rfl, rfl, H2⟩
  exact ⟨_, rfl, rfl, H2.unrwtr rfl rfl⟩
end Go.Proofs.Yteoecchggjmffaa
/- Bits: Writer.Align. -/
namespace Go.Proofs.Yteoecchggjmffaa
open Go.RowKit

set_option maxHeartbeats 400000 in
theorem align_gen {w0 w : World} {ps : List Piece} {g : Nat} {a : Option Addr} {N cp m : Nat} {xs : List Value} (H : Own w0 w (blk g (.cells #[.slice a N cp, .int .i64 m] 34) :: ps)) (hN1 : N ≤ 35184372088832) (hc1 : N ≤ cp) (hc2 : cp ≤ 9223372036854775807) :
    Calls Try.prog 36 #[.pointer (some ⟨g, 0, none⟩)] w (Ret fun _ w' => Own w0 w' (blk g (.cells #[.slice a N cp, .int .i64 (8 * N : Nat)] 34) :: ps)) := by
  have c0 := H.cells
  go_enter Try.func36, Try.ntmps36
  go_wp2_with (refine wpList_store_int rfl _ _ rfl rfl H rfl (by kernel_rfl) (by simp) ?_; clear H c0; intro w3 H)
  go_end0
  refine ⟨_, rfl, ?_⟩
  simpa using H
theorem align_any {w0 w : World} {ps : List Piece} {g : Nat} {bs : List Bool} (H : Own w0 w (Wtr g bs :: ps)) (hl : bs.length ≤ 35184372088832) :
    Calls Try.prog 36 #[.pointer (some ⟨g, 0, none⟩)] w (Ret fun _ w' => Own w0 w' (Wtr g (aligned bs) :: ps)) := by
  obtain ⟨a, cp, hc1, hc2, H⟩ := H.wtr
  refine (align_gen (xs := []) H (by unfold nbytes; omega) hc1 hc2).mono ?_
  rintro e w3 ⟨v, rfl, H⟩
  refine ⟨_, rfl, H.unwtr ?_ ?_ ?_⟩
  · rw [aligned_length]
  · rw [aligned_length]; unfold nbytes; omega
  · rw [bytesOf_aligned]
end Go.Proofs.Yteoecchggjmffaa
/- Bits: Writer.Text. -/
namespace Go.Proofs.Yteoecchggjmffaa
open Go.RowKit

set_option maxHeartbeats 400000 in
theorem text_any {w0 w : World} {ps : List Piece} {g : Nat} {bs : List Bool} (s : ByteArray) (H : Own w0 w (Wtr g bs :: ps)) (hl : bs.length + s.size ≤ 35184372088000) :
    Calls Try.prog 38 #[.pointer (some ⟨g, 0, none⟩), .string s] w (Ret fun _ w' => Own w0 w' (Wtr g (aligned bs ++ textBits s) :: ps)) := by
  go_enter Try.func38, Try.ntmps38
  go_wp2_with fail
  refine (align_any H (by omega)).mono ?_
  rintro e w1 ⟨_, rfl, H1⟩
  clear H
  obtain ⟨m, hm⟩ : ∃ m, Hid ((aligned bs).length = m) := ⟨_, rfl⟩
  obtain ⟨N, hN⟩ : ∃ N, Hid (nbytes m = N) := ⟨_, rfl⟩
  have hmN : m = 8 * N ∧ N ≤ nbytes bs.length := by have h1 := hm.out; have h2 := hN.out; rw [aligned_length] at h1; unfold nbytes at *; omega
  obtain ⟨hmN, hN2⟩ := hmN
  have hN3 : N + s.size ≤ 35184372088800 := by unfold nbytes at hN2; omega
  obtain ⟨a, cp, hc1, hc2, H⟩ := H1.wtr
  clear H1
  rw [hm.out] at H hc1
  rw [hN.out] at H hc1
  have c0 := H.cells
  go_wp2_with (first
    | (at_builtin; refine wpList_append_str rfl _ _ rfl Try.underlying32 Try.underlying9 u8Info rfl rfl H.swap rfl (by omega) ?_; clear H c0; intro v' w' H; replace H := H.swap; obtain ⟨a', c', rfl, h1', h2'⟩ := (H.front 1 rfl).rd.shape)
    | (refine wpList_store_slice rfl _ _ rfl rfl H rfl (by kernel_rfl) (by simp) ?_; clear H; intro w2 H))
  refine (align_gen (xs := []) (m := m) (by simpa using H) (by omega) h1' h2').mono ?_
  rintro e w3 ⟨_, rfl, H3⟩
  go_wp2
  go_end0
  have hlen : (aligned bs ++ textBits s).length = 8 * (N + s.size) := by rw [List.length_append, hm.out, textBits_length]; omega
  refine ⟨_, rfl, H3.unwtr ?_ ?_ ?_⟩
  · rw [hlen]
  · rw [hlen]; unfold nbytes; omega
  · rw [bytesOf_append _ _ (by rw [hm.out]; omega), textBits, bytesOf_nums _ (byteNums_bd s), byteCells_nums]
    simp [u8s]
end Go.Proofs.Yteoecchggjmffaa
/- flate: the walks of the document's Simple; of Store, and the document's. -/
namespace Go.Proofs.Yteoecchggjmffaa
open Go.RowKit

set_option maxRecDepth 100000 in
set_option maxHeartbeats 1600000 in
theorem rsimple_any {w : World} (s : ByteArray) (hs : s.size ≤ 1000000) :
    Calls Try.prog 22 #[.string s] w (Ret fun r w' => r = .string (simpleF s) ∧ Own w w' []) := by
  have H := (Own.start w).newRWtr
  obtain ⟨T, hT⟩ : ∃ T, Hid (parse s = T) := ⟨_, rfl⟩
  have hok := parse_ok s
  have hlen := parse_len s
  unfold simpleF
  rw [hT.out] at hok hlen ⊢
  obtain ⟨B0, hB0⟩ : ∃ B0 : List Bool, Hid ([true] ++ bitsOf 1 2 = B0) := ⟨_, Lib.hid rfl⟩
  have hB0l : B0.length = 3 := by rw [← hB0.out]; rfl
  have hB : Hid (blockB T 1 true = B0 ++ bodyB fixL fixD T) := Lib.hid (by unfold blockB; rw [if_pos rfl, ← hB0.out]; rfl)
  have hBl := blockB_le hok true
  obtain ⟨B, hB2⟩ : ∃ B, Hid (B0 ++ bodyB fixL fixD T = B) := ⟨_, Lib.hid rfl⟩
  rw [hB.out, hB2.out] at hBl ⊢
  have HOK := Lib.hid hok
  have k1 := fun w1 (h : Own w w1 [RWtr w.heap.size []]) => rput_any 1 1 (by omega) h (by simp)
  have k2 := fun w1 (h : Own w w1 [RWtr w.heap.size [true]]) => rput_any 1 2 (by omega) h (by simp)
  rw [show bitsOf 1 (cut 1) = [true] by decide, List.nil_append] at k1
  rw [show cut 2 = 2 from rfl, hB0.out] at k2
  have K1 := Lib.hid k1
  have K2 := Lib.hid k2
  clear hok k1 k2
  go_enter Try.func22, Try.ntmps22
  go_wp2_with fail
  generalize w.alloc _ = w1 at *
  generalize w.heap.size = g at *
  refine (K1.out _ H).mono ?_
  rintro e w2 ⟨_, rfl, H2⟩
  clear H
  go_wp2_with fail
  refine (K2.out _ H2).mono ?_
  rintro e w3 ⟨_, rfl, H⟩
  clear H2
  go_wp2_with fail
  refine (rfixed_any _).mono ?_
  rintro e w4 ⟨_, rfl, v, u, rfl, H3⟩
  replace H := H.join H3
  clear H3
  obtain ⟨av, cv, rfl, -⟩ := (H.front 1 rfl).rd.shape
  obtain ⟨au, cu, rfl, -⟩ := H.rd.shape
  go_wp2_with fail
  refine (refparse_any H hs).mono ?_
  rintro e w5 ⟨v, rfl, H2⟩
  rw [hT.out] at H2
  clear H
  obtain ⟨a, c, rfl, -⟩ := H2.rd.shape
  have H : Own w w5 (RWtr g B0 :: slc 65 3 (.slice a T.length c) T.length (rows tcell T) :: slc 3 1 (.slice au 32 cu) 32 (nums fixD) :: slc 3 1 (.slice av 288 cv) 288 (nums fixL) :: []) := H2.front 3 rfl
  clear H2
  have hb := rbody_any (L := fixL) (D := fixD) (l := T) (v := .slice av 288 cv) (v2 := .slice au 32 cu) (tv := .slice a T.length c) (fun w' h => by rw [fixL_ok.1]; exact (h.front 2 rfl).rd) (fun w' h => by rw [fixD_ok.1]; exact (h.front 1 rfl).rd) fixL_ok.2.1 fixD_ok.2.1 (by rw [fixD_ok.1]; omega) (fun w' h => h.rd) (fun t h => fix_sym (HOK.out t h)) (by rw [fixL_ok.1]; omega) H (by omega)
  have HB := Lib.hid hb
  clear hb
  obtain ⟨N, hN⟩ : ∃ N, Hid (T.length = N) := ⟨_, rfl⟩
  rw [hN.out] at HB ⊢
  go_wp2_with fail
  refine HB.out.mono ?_
  rintro e w6 ⟨_, rfl, H3⟩
  clear H
  rw [hB2.out] at H3
  go_wp2_with fail
  refine (rbytes_any H3 (by omega)).mono ?_
  rintro e w7 ⟨_, rfl, rfl, H4⟩
  go_wp2_with fail
  go_ret
  exact ⟨_, rfl, rfl, H4.bare⟩
end Go.Proofs.Yteoecchggjmffaa
/- flate: the walk of Store. -/
namespace Go.Proofs.Yteoecchggjmffaa
open Go.RowKit

theorem xor16 {n : Nat} (h : n ≤ 65535) : bits .xor .i64 (n : Int) 65535 = 65535 - (n : Int) := by
  have h1 : n ^^^ 65535 = 65535 - n := by
    have e1 : (BitVec.ofNat 16 n ^^^ BitVec.allOnes 16).toNat = 65535 - n := by
      rw [BitVec.xor_allOnes, BitVec.toNat_not, BitVec.toNat_ofNat, Nat.mod_eq_of_lt (by omega)]
    rw [BitVec.toNat_xor, BitVec.toNat_ofNat, Nat.mod_eq_of_lt (by omega)] at e1
    exact e1
  have key : IntKind.i64.wrap ((BitVec.ofInt 64 (n : Int) ^^^ BitVec.ofInt 64 ((65535 : Nat) : Int)).toNat : Int) = 65535 - (n : Int) := by
    rw [BitVec.ofInt_natCast, BitVec.ofInt_natCast, BitVec.toNat_xor, BitVec.toNat_ofNat, BitVec.toNat_ofNat, Nat.mod_eq_of_lt (by omega), Nat.mod_eq_of_lt (by omega), h1, IntKind.wrap_i64]
    omega
  exact key
theorem aligned_id {bs : List Bool} (h : bs.length % 8 = 0) : aligned bs = bs := by
  unfold aligned padN
  rw [h]
  simp
theorem aligned_mod (bs : List Bool) : (aligned bs).length % 8 = 0 := by rw [aligned_length]; omega
def strLen : Value → Nat | .string t => t.size | _ => 0
def boolNum : Value → Nat | .bool true => 1 | _ => 0
/-- A chunk of a text as it is. -/
def chunkB (last : Bool) (t : ByteArray) (bs : List Bool) : List Bool := aligned (bs ++ headB last 0) ++ (bitsOf (t.size : Int) 16 ++ (bitsOf (65535 - (t.size : Int)) 16 ++ textBits t))
theorem chunk_len (last : Bool) (t : ByteArray) (bs : List Bool) : (chunkB last t bs).length ≤ bs.length + 8 * t.size + 48 := by
  unfold chunkB
  rw [List.length_append, List.length_append, List.length_append, bitsOf_length, bitsOf_length, textBits_length, aligned_length, List.length_append]
  simp [headB, bitsOf_length, nbytes]
  omega
theorem storeB_more {f : Nat} {t : ByteArray} {bs : List Bool} (h : ¬ t.size ≤ 65535) : storeB (f + 1) t bs = storeB f (t.extract 65535 t.size) (chunkB false (t.extract 0 65535) bs) := by
  rw [storeB, if_neg h]
  unfold chunkB
  rw [show (t.extract 0 65535).size = 65535 by rw [ByteArray.size_extract]; omega]
  rfl
theorem storeB_last {f : Nat} {t : ByteArray} {bs : List Bool} (h : t.size ≤ 65535) : storeB (f + 1) t bs = chunkB true t bs := by
  rw [storeB, if_pos h]; rfl

theorem tl_empty (t : ByteArray) : t.toList.isEmpty = decide (t.size = 0) := by
  rw [str_data]
  cases h : t.data.toList with
  | nil =>
    have : t.data.size = 0 := by rw [← Array.length_toList, h]; rfl
    have : t.size = 0 := this
    rw [this]; rfl
  | cons a l =>
    have : t.data.size = l.length + 1 := by rw [← Array.length_toList, h]; rfl
    have : t.size = l.length + 1 := this
    rw [this]; rfl
set_option maxRecDepth 100000 in
set_option maxHeartbeats 3200000 in
theorem store_any {w : World} (s : ByteArray) (hs : s.size ≤ 1000000) :
    Calls Try.prog 18 #[.string s] w (Ret fun r w' => r = .string (textOf (storeF s)) ∧ Own w w' []) := by
  have H := (Own.start w).newWtr
  obtain ⟨R, hR⟩ : ∃ R, Hid (storeF s = R) := ⟨_, Lib.hid rfl⟩
  rw [hR.out]
  have hR2 : Hid (storeB (s.size + 1) s [] = R) := Lib.hid hR.out
  clear hR
  go_enter Try.func18, Try.ntmps18
  go_wp2_with fail
  generalize w.alloc _ = w1 at *
  generalize w.heap.size = g at *
  go_loopw [0, 4] (fun s0 s4 wx => ∃ (t : ByteArray) (b : Bool) (f : Nat) (B : List Bool), s0 = .string t ∧ s4 = .bool b ∧ t.size ≤ 1000000 ∧ t.size < f + 1 ∧ (Hid (B.length ≤ 10 * (1000000 - t.size) + 48) ∧ (b = true ∨ 0 < t.size) ∧ Hid (storeB (f + 1) t B = R) ∨ b = false ∧ t.size = 0 ∧ Hid (B = R)) ∧ Own w wx [Wtr g B]) (fun s0 s4 _ => 2 * strLen s0 + boolNum s4)
  case atStart => exact ⟨s, true, s.size, [], rfl, rfl, hs, by omega, .inl ⟨Lib.hid (by simp), .inl rfl, hR2⟩, H⟩
  case round =>
    clear H hR2
    obtain ⟨t, b, f, B, rfl, rfl, ht, hf, hc, H⟩ := hrel
    rcases hc with ⟨hBl, hc, hst⟩ | ⟨rfl, ht0, hBR⟩
    · have hte : b = true ∨ t.toList.isEmpty = false := by
        rcases hc with h1 | h1
        · exact .inl h1
        · right; rw [tl_empty, decide_eq_false_iff_not]; omega
      obtain ⟨N, hN⟩ : ∃ N, t.size = N := ⟨_, rfl⟩
      rw [hN] at hf ht hc hBl
      by_cases h16 : N ≤ 65535
      · have hfin := hst.out
        rw [storeB_last (by rw [hN]; exact h16)] at hfin
        have HFIN := Lib.hid hfin
        have hx1 := xor16 h16
        have hex0 : t.extract 0 N = t := by rw [← hN]; exact ByteArray.extract_zero_size
        have ht2s : Hid (ByteArray.empty.size = 0) := Lib.hid rfl
        have hms : Hid (0 < 2 * N + boolNum (.bool b)) := Lib.hid (by rcases hc with h1 | h1
                                                                      · subst h1; simp [boolNum]
                                                                      · omega)
        clear hc hst hfin
        rcases hte with rfl | hte
        case' inr => cases b
        all_goals
          go_upto_region 5 with (fail)
          go_cut [5, 11, 12, 13] (fun s5 _ _ _ wx => wx = wr ∧ s5 = .int .i64 N)
          case first =>
            go_wp2
            all_goals go_meet
            all_goals exact ⟨rfl, val_int (by omega)⟩
          case rest =>
          obtain ⟨rfl, rfl⟩ := hcut
          have k1 := fun w1 (h : Own w w1 [Wtr g B]) => head_any true 0 (by omega) h (by have := hBl.out; omega)
          have k2 := fun w1 (h : Own w w1 [Wtr g (B ++ headB true 0)]) => align_any h (by rw [List.length_append]; simp [headB, bitsOf_length]; have := hBl.out; omega)
          have hal : (aligned (B ++ headB true 0)).length ≤ 11000000 := by rw [aligned_length, List.length_append]; simp [headB, bitsOf_length, nbytes]; have := hBl.out; omega
          have ham := aligned_mod (B ++ headB true 0)
          obtain ⟨A, hA⟩ : ∃ A, Hid (aligned (B ++ headB true 0) = A) := ⟨_, Lib.hid rfl⟩
          rw [hA.out] at k2 hal ham
          have k3 := fun w1 (h : Own w w1 [Wtr g A]) => put_any ((N : Int)) 16 (by omega) (by omega) h (by omega)
          have k4 := fun w1 (h : Own w w1 [Wtr g (A ++ bitsOf ((N : Int)) 16)]) => put_any (65535 - ((N : Int))) 16 (by omega) (by omega) h (by rw [List.length_append, bitsOf_length]; omega)
          rw [show cut 16 = 16 from rfl] at k3 k4
          have hal2 : aligned (A ++ bitsOf ((N : Int)) 16 ++ bitsOf (65535 - ((N : Int))) 16) = A ++ bitsOf ((N : Int)) 16 ++ bitsOf (65535 - ((N : Int))) 16 := aligned_id (by rw [List.length_append, List.length_append, bitsOf_length, bitsOf_length]; omega)
          have k5 := fun w1 (h : Own w w1 [Wtr g (A ++ bitsOf ((N : Int)) 16 ++ bitsOf (65535 - ((N : Int))) 16)]) => text_any (t) h (by rw [List.length_append, List.length_append, bitsOf_length, bitsOf_length]; omega)
          rw [hal2] at k5
          have hch : Hid (A ++ bitsOf ((N : Int)) 16 ++ bitsOf (65535 - ((N : Int))) 16 ++ textBits (t) = chunkB true (t) B) := Lib.hid (by unfold chunkB; rw [hA.out, hN]; simp only [List.append_assoc])
          have K1 := Lib.hid k1
          have K2 := Lib.hid k2
          have K3 := Lib.hid k3
          have K4 := Lib.hid k4
          have K5 := Lib.hid k5
          have hcl := chunk_len true (t) B
          have HCL := Lib.hid hcl
          clear k1 k2 k3 k4 k5 hal ham hal2 hcl
          go_wp2_with fail
          refine (K1.out _ H).mono ?_
          rintro e w3 ⟨_, rfl, H3⟩
          clear H
          go_wp2_with fail
          refine (K2.out _ H3).mono ?_
          rintro e w4 ⟨_, rfl, H⟩
          clear H3
          go_wp2_with fail
          refine (K3.out _ H).mono ?_
          rintro e w5 ⟨_, rfl, H5⟩
          clear H
          go_wp2_with fail
          refine (K4.out _ H5).mono ?_
          rintro e w6 ⟨_, rfl, H⟩
          clear H5
          go_wp2_with fail
          refine (K5.out _ H).mono ?_
          rintro e w7 ⟨_, rfl, H7⟩
          clear H
          rw [hch.out] at H7
          go_wp2_with fail
          go_roundw
          case rel => exact ⟨ByteArray.empty, false, f, _, rfl, rfl, by rw [ht2s.out]; omega, by rw [ht2s.out]; omega, .inr ⟨rfl, ht2s.out, HFIN⟩, H7⟩
          case measure => simp only [strLen, ht2s.out, hN]; exact hms.out
      · have hfin := hst.out
        obtain ⟨f, rfl⟩ : ∃ f', f = f' + 1 := ⟨f - 1, by omega⟩
        obtain ⟨t3, ht3⟩ : ∃ t3, t.extract 0 65535 = t3 := ⟨_, rfl⟩
        obtain ⟨t2, ht2⟩ : ∃ t2, t.extract 65535 N = t2 := ⟨_, rfl⟩
        have ht2s : Hid (t2.size = N - 65535) := Lib.hid (by rw [← ht2, ByteArray.size_extract]; omega)
        have ht3s : t3.size = 65535 := by rw [← ht3, ByteArray.size_extract]; omega
        rw [storeB_more (by rw [hN]; exact h16), hN, ht2, ht3] at hfin
        have HFIN := Lib.hid hfin
        clear hc hst hfin
        have hNI : ((65535 : Int) == (N : Int)) = false := by simp; omega
        have hcI : (65535 : Int) ≤ (N : Int) := by omega
        rcases hte with rfl | hte
        case' inr => cases b
        all_goals
          go_upto_region 5 with (fail)
          go_cut [5, 11, 12, 13] (fun s5 _ _ _ wx => wx = wr ∧ s5 = .int .i64 65535)
          case first =>
            go_wp2
            all_goals go_meet
            all_goals exact ⟨rfl, val_int (by omega)⟩
          case rest =>
          obtain ⟨rfl, rfl⟩ := hcut
          have k1 := fun w1 (h : Own w w1 [Wtr g B]) => head_any false 0 (by omega) h (by have := hBl.out; omega)
          have k2 := fun w1 (h : Own w w1 [Wtr g (B ++ headB false 0)]) => align_any h (by rw [List.length_append]; simp [headB, bitsOf_length]; have := hBl.out; omega)
          have hal : (aligned (B ++ headB false 0)).length ≤ 11000000 := by rw [aligned_length, List.length_append]; simp [headB, bitsOf_length, nbytes]; have := hBl.out; omega
          have ham := aligned_mod (B ++ headB false 0)
          obtain ⟨A, hA⟩ : ∃ A, Hid (aligned (B ++ headB false 0) = A) := ⟨_, Lib.hid rfl⟩
          rw [hA.out] at k2 hal ham
          have k3 := fun w1 (h : Own w w1 [Wtr g A]) => put_any (65535) 16 (by omega) (by omega) h (by omega)
          have k4 := fun w1 (h : Own w w1 [Wtr g (A ++ bitsOf (65535) 16)]) => put_any (65535 - (65535)) 16 (by omega) (by omega) h (by rw [List.length_append, bitsOf_length]; omega)
          rw [show cut 16 = 16 from rfl] at k3 k4
          have hal2 : aligned (A ++ bitsOf (65535) 16 ++ bitsOf (65535 - (65535)) 16) = A ++ bitsOf (65535) 16 ++ bitsOf (65535 - (65535)) 16 := aligned_id (by rw [List.length_append, List.length_append, bitsOf_length, bitsOf_length]; omega)
          have k5 := fun w1 (h : Own w w1 [Wtr g (A ++ bitsOf (65535) 16 ++ bitsOf (65535 - (65535)) 16)]) => text_any (t3) h (by rw [List.length_append, List.length_append, bitsOf_length, bitsOf_length]; omega)
          rw [hal2] at k5
          have hch : Hid (A ++ bitsOf (65535) 16 ++ bitsOf (65535 - (65535)) 16 ++ textBits (t3) = chunkB false (t3) B) := Lib.hid (by unfold chunkB; rw [hA.out, ht3s]; simp only [List.append_assoc]; rfl)
          have K1 := Lib.hid k1
          have K2 := Lib.hid k2
          have K3 := Lib.hid k3
          have K4 := Lib.hid k4
          have K5 := Lib.hid k5
          have hcl := chunk_len false (t3) B
          rw [ht3s] at hcl
          have HCL := Lib.hid hcl
          clear k1 k2 k3 k4 k5 hal ham hal2 hcl
          go_wp2_with fail
          refine (K1.out _ H).mono ?_
          rintro e w3 ⟨_, rfl, H3⟩
          clear H
          go_wp2_with fail
          refine (K2.out _ H3).mono ?_
          rintro e w4 ⟨_, rfl, H⟩
          clear H3
          go_wp2_with fail
          refine (K3.out _ H).mono ?_
          rintro e w5 ⟨_, rfl, H5⟩
          clear H
          go_wp2_with fail
          refine (K4.out _ H5).mono ?_
          rintro e w6 ⟨_, rfl, H⟩
          clear H5
          go_wp2_with fail
          refine (K5.out _ H).mono ?_
          rintro e w7 ⟨_, rfl, H7⟩
          clear H
          rw [hch.out] at H7
          go_wp2_with fail
          go_roundw
          case rel => exact ⟨t2, false, f, _, rfl, rfl, by rw [ht2s.out]; omega, by rw [ht2s.out]; omega, .inl ⟨Lib.hid (by have := HCL.out; have := hBl.out; rw [ht2s.out]; omega), .inr (by rw [ht2s.out]; omega), HFIN⟩, H7⟩
          case measure => simp only [strLen, ht2s.out, hN]; simp [boolNum]; omega
    · have hte : t.toList.isEmpty = true := by rw [tl_empty, ht0]; rfl
      have HT0 := Lib.hid ht0
      clear ht0 hf
      go_wp2_with fail
      refine (bytes_any H).mono ?_
      rintro e w4 ⟨rfl, rfl⟩
      rw [hBR.out]
      go_wp2_with fail
      go_ret
      exact ⟨_, rfl, rfl, H.bare⟩
end Go.Proofs.Yteoecchggjmffaa
/- flate: the walk of the document's Store. -/
namespace Go.Proofs.Yteoecchggjmffaa
open Go.RowKit

set_option maxRecDepth 100000 in
set_option maxHeartbeats 3200000 in
theorem rstore_any {w : World} (s : ByteArray) (hs : s.size ≤ 1000000) :
    Calls Try.prog 19 #[.string s] w (Ret fun r w' => r = .string (textOf (storeF s)) ∧ Own w w' []) := by
  have H := (Own.start w).newRWtr
  obtain ⟨R, hR⟩ : ∃ R, Hid (storeF s = R) := ⟨_, Lib.hid rfl⟩
  rw [hR.out]
  have hR2 : Hid (storeB (s.size + 1) s [] = R) := Lib.hid hR.out
  clear hR
  go_enter Try.func19, Try.ntmps19
  go_wp2_with fail
  generalize w.alloc _ = w1 at *
  generalize w.heap.size = g at *
  go_loopw [0] (fun s0 wx => ∃ (t : ByteArray) (f : Nat) (B : List Bool), s0 = .string t ∧ t.size ≤ 1000000 ∧ t.size < f + 1 ∧ Hid (B.length ≤ 10 * (1000000 - t.size) + 48) ∧ Hid (storeB (f + 1) t B = R) ∧ Own w wx [RWtr g B]) (fun s0 _ => strLen s0)
  case atStart => exact ⟨s, s.size, [], rfl, hs, by omega, Lib.hid (by simp), hR2, H⟩
  case round =>
    clear H hR2
    obtain ⟨t, f, B, rfl, ht, hf, hBl, hst, H⟩ := hrel
    obtain ⟨N, hN⟩ : ∃ N, t.size = N := ⟨_, rfl⟩
    rw [hN] at hf ht hBl
    by_cases h16 : N ≤ 65535
    · have hfin := hst.out
      rw [storeB_last (by rw [hN]; exact h16)] at hfin
      have hx1 : IntKind.i64.wrap (65535 - (N : Int)) = 65535 - (N : Int) := IntWalk.i64_in _ ⟨by omega, by omega⟩
      have hNI : ¬ (65535 : Int) < (N : Int) := by omega
      have hex0 : t.extract 0 N = t := by rw [← hN]; exact ByteArray.extract_zero_size
      have HFIN := Lib.hid hfin
      clear hst hfin
      have k1 := fun w1 (h : Own w w1 [RWtr g B]) => rput_any 1 1 (by omega) h (by have := hBl.out; omega)
      have k1b := fun w1 (h : Own w w1 [RWtr g (B ++ [true])]) => rput_any 0 2 (by omega) h (by rw [List.length_append]; simp; have := hBl.out; omega)
      rw [show bitsOf 1 (cut 1) = [true] by decide] at k1
      have hhd : B ++ [true] ++ bitsOf 0 (cut 2) = B ++ headB true 0 := by rw [List.append_assoc]; rfl
      rw [hhd] at k1b
      have k2 := fun w1 (h : Own w w1 [RWtr g (B ++ headB true 0)]) => ralign_any h (by rw [List.length_append]; simp [headB, bitsOf_length]; have := hBl.out; omega)
      have hal : (aligned (B ++ headB true 0)).length ≤ 11000000 := by rw [aligned_length, List.length_append]; simp [headB, bitsOf_length, nbytes]; have := hBl.out; omega
      have ham := aligned_mod (B ++ headB true 0)
      obtain ⟨A, hA⟩ : ∃ A, Hid (aligned (B ++ headB true 0) = A) := ⟨_, Lib.hid rfl⟩
      rw [hA.out] at k2 hal ham
      have k3 := fun w1 (h : Own w w1 [RWtr g A]) => rput_any ((N : Int)) 16 (by omega) h (by omega)
      have k4 := fun w1 (h : Own w w1 [RWtr g (A ++ bitsOf ((N : Int)) 16)]) => rput_any (65535 - ((N : Int))) 16 (by omega) h (by rw [List.length_append, bitsOf_length]; omega)
      rw [show cut 16 = 16 from rfl] at k3 k4
      have hal2 : aligned (A ++ bitsOf ((N : Int)) 16 ++ bitsOf (65535 - ((N : Int))) 16) = A ++ bitsOf ((N : Int)) 16 ++ bitsOf (65535 - ((N : Int))) 16 := aligned_id (by rw [List.length_append, List.length_append, bitsOf_length, bitsOf_length]; omega)
      have k5 := fun w1 (h : Own w w1 [RWtr g (A ++ bitsOf ((N : Int)) 16 ++ bitsOf (65535 - ((N : Int))) 16)]) => rtext_any (t) (by omega) h (by rw [List.length_append, List.length_append, bitsOf_length, bitsOf_length]; omega)
      rw [hal2] at k5
      have hch : Hid (A ++ bitsOf ((N : Int)) 16 ++ bitsOf (65535 - ((N : Int))) 16 ++ textBits (t) = chunkB true (t) B) := Lib.hid (by unfold chunkB; rw [hA.out, hN]; simp only [List.append_assoc])
      have K1 := Lib.hid k1
      have K1b := Lib.hid k1b
      have K2 := Lib.hid k2
      have K3 := Lib.hid k3
      have K4 := Lib.hid k4
      have K5 := Lib.hid k5
      have hcl := chunk_len true (t) B
      rw [hN] at hcl
      have HCL := Lib.hid hcl
      clear k1 k1b hhd k2 k3 k4 k5 hal ham hal2 hcl
      go_wp2_with fail
      refine (K1.out _ H).mono ?_
      rintro e w3 ⟨_, rfl, H3⟩
      clear H
      go_wp2_with fail
      refine (K1b.out _ H3).mono ?_
      rintro e w3 ⟨_, rfl, H4⟩
      clear H3
      go_wp2_with fail
      refine (K2.out _ H4).mono ?_
      rintro e w4 ⟨_, rfl, H⟩
      clear H4
      go_wp2_with fail
      refine (K3.out _ H).mono ?_
      rintro e w5 ⟨_, rfl, H5⟩
      clear H
      go_wp2_with fail
      refine (K4.out _ H5).mono ?_
      rintro e w6 ⟨_, rfl, H⟩
      clear H5
      go_wp2_with fail
      refine (K5.out _ H).mono ?_
      rintro e w7 ⟨_, rfl, H7⟩
      clear H
      rw [hch.out] at H7
      go_wp2_with fail
      rw [HFIN.out] at H7
      refine (rbytes_any H7 (by have := HCL.out; have := hBl.out; rw [← HFIN.out]; omega)).mono ?_
      rintro e w8 ⟨_, rfl, rfl, H8⟩
      go_wp2_with fail
      go_ret
      exact ⟨_, rfl, rfl, H8.bare⟩
    · have hfin := hst.out
      obtain ⟨f, rfl⟩ : ∃ f', f = f' + 1 := ⟨f - 1, by omega⟩
      obtain ⟨t3, ht3⟩ : ∃ t3, t.extract 0 65535 = t3 := ⟨_, rfl⟩
      obtain ⟨t2, ht2⟩ : ∃ t2, t.extract 65535 N = t2 := ⟨_, rfl⟩
      have ht2s : Hid (t2.size = N - 65535) := Lib.hid (by rw [← ht2, ByteArray.size_extract]; omega)
      have ht3s : t3.size = 65535 := by rw [← ht3, ByteArray.size_extract]; omega
      rw [storeB_more (by rw [hN]; exact h16), hN, ht2, ht3] at hfin
      have HFIN := Lib.hid hfin
      clear hst hfin
      have hNI : (65535 : Int) < (N : Int) := by omega
      have hcI : (65535 : Int) ≤ (N : Int) := by omega
      have k1 := fun w1 (h : Own w w1 [RWtr g B]) => rput_any 0 1 (by omega) h (by have := hBl.out; omega)
      have k1b := fun w1 (h : Own w w1 [RWtr g (B ++ [false])]) => rput_any 0 2 (by omega) h (by rw [List.length_append]; simp; have := hBl.out; omega)
      rw [show bitsOf 0 (cut 1) = [false] by decide] at k1
      have hhd : B ++ [false] ++ bitsOf 0 (cut 2) = B ++ headB false 0 := by rw [List.append_assoc]; rfl
      rw [hhd] at k1b
      have k2 := fun w1 (h : Own w w1 [RWtr g (B ++ headB false 0)]) => ralign_any h (by rw [List.length_append]; simp [headB, bitsOf_length]; have := hBl.out; omega)
      have hal : (aligned (B ++ headB false 0)).length ≤ 11000000 := by rw [aligned_length, List.length_append]; simp [headB, bitsOf_length, nbytes]; have := hBl.out; omega
      have ham := aligned_mod (B ++ headB false 0)
      obtain ⟨A, hA⟩ : ∃ A, Hid (aligned (B ++ headB false 0) = A) := ⟨_, Lib.hid rfl⟩
      rw [hA.out] at k2 hal ham
      have k3 := fun w1 (h : Own w w1 [RWtr g A]) => rput_any (65535) 16 (by omega) h (by omega)
      have k4 := fun w1 (h : Own w w1 [RWtr g (A ++ bitsOf (65535) 16)]) => rput_any (65535 - (65535)) 16 (by omega) h (by rw [List.length_append, bitsOf_length]; omega)
      rw [show cut 16 = 16 from rfl] at k3 k4
      have hal2 : aligned (A ++ bitsOf (65535) 16 ++ bitsOf (65535 - (65535)) 16) = A ++ bitsOf (65535) 16 ++ bitsOf (65535 - (65535)) 16 := aligned_id (by rw [List.length_append, List.length_append, bitsOf_length, bitsOf_length]; omega)
      have k5 := fun w1 (h : Own w w1 [RWtr g (A ++ bitsOf (65535) 16 ++ bitsOf (65535 - (65535)) 16)]) => rtext_any (t3) (by omega) h (by rw [List.length_append, List.length_append, bitsOf_length, bitsOf_length]; omega)
      rw [hal2] at k5
      have hch : Hid (A ++ bitsOf (65535) 16 ++ bitsOf (65535 - (65535)) 16 ++ textBits (t3) = chunkB false (t3) B) := Lib.hid (by unfold chunkB; rw [hA.out, ht3s]; simp only [List.append_assoc]; rfl)
      have K1 := Lib.hid k1
      have K1b := Lib.hid k1b
      have K2 := Lib.hid k2
      have K3 := Lib.hid k3
      have K4 := Lib.hid k4
      have K5 := Lib.hid k5
      have hcl := chunk_len false (t3) B
      rw [ht3s] at hcl
      have HCL := Lib.hid hcl
      clear k1 k1b hhd k2 k3 k4 k5 hal ham hal2 hcl
      go_wp2_with fail
      refine (K1.out _ H).mono ?_
      rintro e w3 ⟨_, rfl, H3⟩
      clear H
      go_wp2_with fail
      refine (K1b.out _ H3).mono ?_
      rintro e w3 ⟨_, rfl, H4⟩
      clear H3
      go_wp2_with fail
      refine (K2.out _ H4).mono ?_
      rintro e w4 ⟨_, rfl, H⟩
      clear H4
      go_wp2_with fail
      refine (K3.out _ H).mono ?_
      rintro e w5 ⟨_, rfl, H5⟩
      clear H
      go_wp2_with fail
      refine (K4.out _ H5).mono ?_
      rintro e w6 ⟨_, rfl, H⟩
      clear H5
      go_wp2_with fail
      refine (K5.out _ H).mono ?_
      rintro e w7 ⟨_, rfl, H7⟩
      clear H
      rw [hch.out] at H7
      go_wp2_with fail
      go_roundw
      case rel => exact ⟨t2, f, _, rfl, by rw [ht2s.out]; omega, by rw [ht2s.out]; omega, Lib.hid (by have := HCL.out; have := hBl.out; rw [ht2s.out]; omega), HFIN, H7⟩
      case measure => simp only [strLen, ht2s.out, hN]; omega
end Go.Proofs.Yteoecchggjmffaa
/- flate: the walk of the chapter's examples. -/
namespace Go.Proofs.Yteoecchggjmffaa
open Go.RowKit

theorem store_a : textOf (storeF ⟨#[97]⟩) = ⟨#[1, 1, 0, 254, 255, 97]⟩ := by decide +kernel
theorem simple_a : simpleF ⟨#[97]⟩ = ⟨#[75, 4, 0]⟩ := by decide +kernel
theorem sym_a : lenSym 11 = (265, 1, 0) ∧ lenSym 258 = (285, 0, 0) ∧ distSym 6 = (4, 1, 1) := by decide +kernel
set_option maxRecDepth 100000 in
set_option maxHeartbeats 1600000 in
theorem awake_any (w : World) : Calls Try.prog 14 #[] w (Ret fun r w' => r = .bool true ∧ Own w w' []) := by
  have H := Own.start w
  have k1 := length_any 11 (by omega) (by omega)
  have k2 := length_any 258 (by omega) (by omega)
  have k3 := dist_any 6 (by omega) (by omega)
  rw [sym_a.1] at k1
  rw [sym_a.2.1] at k2
  rw [sym_a.2.2] at k3
  have k4 := fun w => store_any (w := w) ⟨#[97]⟩ (by decide)
  have k5 := fun w => simple_any (w := w) ⟨#[97]⟩ (by decide)
  rw [store_a] at k4
  rw [simple_a] at k5
  have K1 := Lib.hid k1
  have K2 := Lib.hid k2
  have K3 := Lib.hid k3
  have K4 := Lib.hid k4
  have K5 := Lib.hid k5
  clear k1 k2 k3 k4 k5
  go_enter Try.func14, Try.ntmps14
  go_wp2_with fail
  refine (K1.out _).mono ?_
  rintro e w1 ⟨_, rfl, rfl, H1⟩
  replace H := H.join H1
  clear H1
  go_wp2_with fail
  refine (K2.out _).mono ?_
  rintro e w2 ⟨_, rfl, rfl, H1⟩
  replace H := H.join H1
  clear H1
  go_wp2_with fail
  refine (K3.out _).mono ?_
  rintro e w3 ⟨_, rfl, rfl, H1⟩
  replace H := H.join H1
  clear H1
  go_wp2_with fail
  refine (K4.out _).mono ?_
  rintro e w4 ⟨_, rfl, rfl, H1⟩
  replace H := H.join H1
  clear H1
  go_wp2_with fail
  refine (K5.out _).mono ?_
  rintro e w5 ⟨_, rfl, rfl, H1⟩
  replace H := H.join H1
  clear H1
  go_wp2_with fail
  go_ret
  exact ⟨_, rfl, rfl, H⟩
end Go.Proofs.Yteoecchggjmffaa
/- Two slices of ints, held against one another. (Picked out of others by tools/pick.py.) -/
namespace Go.Proofs.Yteoecchggjmffaa
open Go.RowKit

theorem eq_of_getD {xs ys : List Int} (h : xs.length = ys.length) (hh : ∀ j, j < xs.length → xs.getD j 0 = ys.getD j 0) : xs = ys := by
  apply List.ext_getElem h
  intro i h1 h2
  have := hh i h1
  simpa [List.getD, h1, h2] using this
set_option maxHeartbeats 400000 in
theorem same_quiet (v1 v2 : Value) (n1 n2 : Nat) (xs ys : List Int) (w : World) (h1 : Rd w 1 v1 n1 (xs.map (.int .i64))) (h2 : Rd w 1 v2 n2 (ys.map (.int .i64))) :
    Calls Try.prog 17 #[v1, v2] w fun e w' => e = .returned (.bool (decide (xs = ys))) ∧ ∃ n, w' = w.drewN n := by
  have F1 := Lib.hid h1; clear h1
  have F2 := Lib.hid h2; clear h2
  have E1 : Hid (n1 = xs.length) := by have := F1.out.len; simp at this; exact this.symm
  have E2 : Hid (n2 = ys.length) := by have := F2.out.len; simp at this; exact this.symm
  obtain ⟨a1, c1, rfl, hn1, hm1⟩ := F1.out.shape
  obtain ⟨a2, c2, rfl, hn2, hm2⟩ := F2.out.shape
  go_enter Try.func17, Try.ntmps17
  go_wp2
  · have HN : Hid (n1 ≠ n2) := by have h : ((n1 : Int) != (n2 : Int)) = true := by assumption
                                  simp at h; exact Lib.hid (by omega)
    go_ret
    exact ⟨ret_bool (by simp; intro h; exact HN.out (by rw [E1.out, E2.out, h])), 0, rfl⟩
  · have HN : Hid (n1 = n2) := by have h : ((n1 : Int) != (n2 : Int)) = false := by assumption
                                  simp at h; exact Lib.hid (by omega)
    go_loopw [5] (fun i wr => ∃ k : Nat, k ≤ n1 ∧ i = .int .i64 k ∧ (∃ m, wr = w.drewN m) ∧ Hid (∀ j, j < k → xs.getD j 0 = ys.getD j 0)) (fun i _ => n1 - (intOf i).toNat)
    case atStart => exact ⟨0, Nat.zero_le _, rfl, ⟨0, rfl⟩, Lib.hid (by intro j hj; omega)⟩
    case round =>
      obtain ⟨k, hk, rfl, ⟨m, rfl⟩, hall⟩ := hrel
      by_cases hlt : k < n1
      · have hlt2 : k < n2 := by have := HN.out; omega
        obtain ⟨b1, o1, c1, e1, _, _, g1⟩ := F1.out.at (by have := F1.out.len; omega)
        obtain ⟨b2, o2, c2, e2, _, _, g2⟩ := F2.out.at (by have := F2.out.len; omega)
        cases e1; cases e2
        replace g1 := g1 k _ (ints_get _ _ (by have := E1.out; omega))
        replace g2 := g2 k _ (ints_get _ _ (by have := E2.out; omega))
        obtain ⟨x, hx⟩ : ∃ x, Hid (xs.getD k 0 = x) := ⟨_, rfl⟩
        obtain ⟨y, hy⟩ : ∃ x, Hid (ys.getD k 0 = x) := ⟨_, rfl⟩
        rw [hx.out] at g1; rw [hy.out] at g2
        go_wp2
        go_quiet (fail)
        go_wp2
        · have h : (x != y) = true := by assumption
          go_ret
          exact ⟨ret_bool (by simp at h ⊢; rintro rfl; exact h (by rw [← hx.out, hy.out])), m + nq, by first | rfl | exact drewN_add _ _ _⟩
        · have h : (x != y) = false := by assumption
          go_round
          case rel => exact ⟨k + 1, by omega, by go_num, ⟨_, rfl⟩, Lib.hid (fun j hj => by
            by_cases e : j = k
            · subst e; rw [hx.out, hy.out]; simpa using h
            · exact hall.out j (by omega))⟩
          case measure => simp [intOf]; omega
      · go_wp2
        go_ret
        refine ⟨ret_bool ?_, _, rfl⟩
        simp
        exact eq_of_getD (by rw [← E1.out, ← E2.out, HN.out]) (fun j hj => hall.out j (by have := E1.out; omega))
end Go.Proofs.Yteoecchggjmffaa
/- flate: the walks of the laws on symbols, on the fixed codes, on what is stored, and packed by the fixed codes. -/
namespace Go.Proofs.Yteoecchggjmffaa
open Go.RowKit

theorem mask_nat (a : Int) (k : Nat) (hk : k ≤ 62) : ∃ x : Nat, x < 2 ^ k ∧ bits .and .i64 a ((2 ^ k - 1 : Nat) : Int) = (x : Int) := by
  have hp : 0 < 2 ^ k := Nat.pow_pos (by omega)
  have h1 : 0 ≤ a % ((2 ^ k : Nat) : Int) := Int.emod_nonneg _ (by omega)
  have h2 : a % ((2 ^ k : Nat) : Int) < ((2 ^ k : Nat) : Int) := Int.emod_lt_of_pos _ (by omega)
  refine ⟨(a % ((2 ^ k : Nat) : Int)).toNat, by omega, ?_⟩
  rw [i64_and_mask a k hk]
  omega
theorem mask255 (a : Int) : ∃ x : Nat, x < 256 ∧ bits .and .i64 a 255 = (x : Int) := mask_nat a 8 (by omega)
theorem mask32767 (a : Int) : ∃ x : Nat, x < 32768 ∧ bits .and .i64 a 32767 = (x : Int) := mask_nat a 15 (by omega)

set_option maxRecDepth 100000 in
set_option maxHeartbeats 1600000 in
theorem lawsymbols_any (a b : Int) (w : World) :
    Calls Try.prog 3 #[.int .i64 a, .int .i64 b] w (Ret fun r w' => r = .bool true ∧ Own w w' []) := by
  have H := Own.start w
  obtain ⟨x, hx, hxa⟩ := mask255 a
  obtain ⟨y, hy, hyb⟩ := mask32767 b
  have k1 := length_any (3 + x) (by omega) (by omega)
  have k2 := rlength_any (3 + x) (by omega) (by omega)
  have k3 := dist_any (1 + y) (by omega) (by omega)
  have k4 := rdist_any (1 + y) (by omega) (by omega)
  rw [show ((3 + x : Nat) : Int) = 3 + (x : Int) from rfl] at k1 k2
  rw [show ((1 + y : Nat) : Int) = 1 + (y : Int) from rfl] at k3 k4
  obtain ⟨l1, l2, l3, hl⟩ : ∃ l1 l2 l3, lenSym (3 + x) = (l1, l2, l3) := ⟨_, _, _, rfl⟩
  obtain ⟨d1, d2, d3, hd⟩ : ∃ d1 d2 d3, distSym (1 + y) = (d1, d2, d3) := ⟨_, _, _, rfl⟩
  rw [hl] at k1 k2
  rw [hd] at k3 k4
  have K1 := Lib.hid k1
  have K2 := Lib.hid k2
  have K3 := Lib.hid k3
  have K4 := Lib.hid k4
  have hw1 : IntKind.i64.wrap (3 + (x : Int)) = 3 + (x : Int) := IntWalk.i64_in _ ⟨by omega, by omega⟩
  have hw2 : IntKind.i64.wrap (1 + (y : Int)) = 1 + (y : Int) := IntWalk.i64_in _ ⟨by omega, by omega⟩
  clear k1 k2 k3 k4 hl hd
  go_enter Try.func3, Try.ntmps3
  go_wp2_with fail
  refine (K1.out _).mono ?_
  rintro e w1 ⟨_, rfl, rfl, H1⟩
  replace H := H.join H1
  clear H1
  go_wp2_with fail
  refine (K2.out _).mono ?_
  rintro e w2 ⟨_, rfl, rfl, H1⟩
  replace H := H.join H1
  clear H1
  go_wp2_with fail
  refine (K3.out _).mono ?_
  rintro e w3 ⟨_, rfl, rfl, H1⟩
  replace H := H.join H1
  clear H1
  go_wp2_with fail
  refine (K4.out _).mono ?_
  rintro e w4 ⟨_, rfl, rfl, H1⟩
  replace H := H.join H1
  clear H1
  go_wp2_with fail
  refine (awake_any _).mono ?_
  rintro e w5 ⟨_, rfl, rfl, H1⟩
  replace H := H.join H1
  clear H1
  go_wp2_with fail
  go_ret
  exact ⟨_, rfl, rfl, H⟩

theorem lastI_mono (T : List (Nat × Nat)) {n m : Nat} (h : n ≤ m) : ∀ k, lastI T n k ≤ lastI T m k := by
  intro k
  induction k with
  | zero => simp [lastI]
  | succ k ih =>
    rw [lastI, lastI]
    have := lastI_le T n k
    split
    · rw [if_pos (by omega)]; exact Nat.le_refl _
    · split
      · omega
      · exact ih
theorem lastI_fst (T : List (Nat × Nat)) {n : Nat} (h0 : (T.getD 0 (0, 0)).1 ≤ n) : ∀ k, (T.getD (lastI T n k) (0, 0)).1 ≤ n := by
  intro k
  induction k with
  | zero => exact h0
  | succ k ih =>
    rw [lastI]
    split
    · next h => exact h
    · exact ih
theorem len_order {n m : Nat} (h1 : 3 ≤ n) (h : n < m) (h2 : m ≤ 258) : (lenSym n).1 < (lenSym m).1 ∨ (lenSym n).1 = (lenSym m).1 ∧ (lenSym n).2.2 < (lenSym m).2.2 := by
  rw [len_same' n (by omega), len_same' m (by omega), refLen_last h1, refLen_last (by omega)]
  have hm := lastI_mono lensT (Nat.le_of_lt h) 29
  have hf := lastI_fst lensT (n := n) h1 29
  simp only
  rcases Nat.lt_or_ge (lastI lensT n 29) (lastI lensT m 29) with h3 | h3
  · left; omega
  · right
    have : lastI lensT n 29 = lastI lensT m 29 := by omega
    rw [this] at hf ⊢
    omega
theorem dist_order {n m : Nat} (h1 : 1 ≤ n) (h : n < m) (h2 : m ≤ 32768) : (distSym n).1 < (distSym m).1 ∨ (distSym n).1 = (distSym m).1 ∧ (distSym n).2.2 < (distSym m).2.2 := by
  rw [dist_same' n (by omega), dist_same' m (by omega), refDist_last h1, refDist_last (by omega)]
  have hm := lastI_mono distsT (Nat.le_of_lt h) 30
  have hf := lastI_fst distsT (n := n) h1 30
  simp only
  rcases Nat.lt_or_ge (lastI distsT n 30) (lastI distsT m 30) with h3 | h3
  · left; omega
  · right
    have : lastI distsT n 30 = lastI distsT m 30 := by omega
    rw [this] at hf ⊢
    omega
set_option maxRecDepth 100000 in
set_option maxHeartbeats 3200000 in
theorem laworder_any (a b : Int) (w : World) :
    Calls Try.prog 7 #[.int .i64 a, .int .i64 b] w (Ret fun r w' => r = .bool true ∧ Own w w' []) := by
  have H := Own.start w
  obtain ⟨x, hx, hxa⟩ := mask255 a
  obtain ⟨y, hy, hyb⟩ := mask255 b
  have hw1 : IntKind.i64.wrap (3 + (x : Int)) = 3 + (x : Int) := IntWalk.i64_in _ ⟨by omega, by omega⟩
  have hw2 : IntKind.i64.wrap (3 + (y : Int)) = 3 + (y : Int) := IntWalk.i64_in _ ⟨by omega, by omega⟩
  have key : ∀ (n m : Nat), n ≤ m → m < 256 → ∃ l1 l2 l3 m1 m2 m3 d1 d2 d3 e1 e2 e3 : Nat, (∀ w, Calls Try.prog 10 #[.int .i64 (3 + (n : Int))] w (Ret fun r w' => r = .tuple #[.int .i64 l1, .int .i64 l2, .int .i64 l3] ∧ Own w w' [])) ∧
      (∀ w, Calls Try.prog 10 #[.int .i64 (3 + (m : Int))] w (Ret fun r w' => r = .tuple #[.int .i64 m1, .int .i64 m2, .int .i64 m3] ∧ Own w w' [])) ∧
      (∀ w, Calls Try.prog 12 #[.int .i64 (3 + (n : Int))] w (Ret fun r w' => r = .tuple #[.int .i64 d1, .int .i64 d2, .int .i64 d3] ∧ Own w w' [])) ∧
      (∀ w, Calls Try.prog 12 #[.int .i64 (3 + (m : Int))] w (Ret fun r w' => r = .tuple #[.int .i64 e1, .int .i64 e2, .int .i64 e3] ∧ Own w w' [])) ∧
      ((n = m ∧ l1 = m1 ∧ l3 = m3 ∧ d1 = e1 ∧ d3 = e3) ∨ (n < m ∧ (l1 < m1 ∨ l1 = m1 ∧ l3 < m3) ∧ (d1 < e1 ∨ d1 = e1 ∧ d3 < e3))) := by
    intro n m hnm hm
    refine ⟨_, _, _, _, _, _, _, _, _, _, _, _, length_any (3 + n) (by omega) (by omega), length_any (3 + m) (by omega) (by omega), dist_any (3 + n) (by omega) (by omega), dist_any (3 + m) (by omega) (by omega), ?_⟩
    rcases Nat.lt_or_ge n m with h | h
    · right
      exact ⟨h, len_order (by omega) (by omega) (by omega), dist_order (by omega) (by omega) (by omega)⟩
    · left
      have : n = m := by omega
      subst this
      exact ⟨rfl, rfl, rfl, rfl, rfl⟩
  have sym : ∃ (n m : Nat), n ≤ m ∧ m < 256 ∧ ((x < y ∧ n = x ∧ m = y) ∨ (y ≤ x ∧ n = y ∧ m = x)) := by
    rcases Nat.lt_or_ge x y with h | h
    · exact ⟨x, y, by omega, hy, .inl ⟨h, rfl, rfl⟩⟩
    · exact ⟨y, x, h, hx, .inr ⟨h, rfl, rfl⟩⟩
  obtain ⟨n, m, hnm, hm, hxy⟩ := sym
  obtain ⟨l1, l2, l3, m1, m2, m3, d1, d2, d3, e1, e2, e3, k1, k2, k3, k4, hc⟩ := key n m hnm hm
  have K1 := Lib.hid k1
  have K2 := Lib.hid k2
  have K3 := Lib.hid k3
  have K4 := Lib.hid k4
  have HC := Lib.hid hc
  clear k1 k2 k3 k4 hc key
  go_enter Try.func7, Try.ntmps7
  rcases hxy with ⟨h, rfl, rfl⟩ | ⟨h, rfl, rfl⟩
  case' inl =>
    have hI : ¬ 3 + (m : Int) ≤ 3 + (n : Int) := by omega
  case' inr =>
    have hI : 3 + (n : Int) ≤ 3 + (m : Int) := by omega
  all_goals
    go_wp2_with fail
    refine (K1.out _).mono ?_
    rintro e w1 ⟨_, rfl, rfl, H1⟩
    replace H := H.join H1
    clear H1
    go_wp2_with fail
    refine (K2.out _).mono ?_
    rintro e w2 ⟨_, rfl, rfl, H1⟩
    replace H := H.join H1
    clear H1
    go_wp2_with fail
    refine (K3.out _).mono ?_
    rintro e w3 ⟨_, rfl, rfl, H1⟩
    replace H := H.join H1
    clear H1
    go_wp2_with fail
    refine (K4.out _).mono ?_
    rintro e w4 ⟨_, rfl, rfl, H1⟩
    replace H := H.join H1
    clear H1
    clear K1 K2 K3 K4 hw1 hw2 hI h hnm
    obtain ⟨c1, c2⟩ : ((n : Int) = m ∨ (n : Int) < m) ∧ True := ⟨by have := HC.out; omega, trivial⟩
    have hcase : (Hid (n = m) ∧ l1 = m1 ∧ l3 = m3 ∧ d1 = e1 ∧ d3 = e3) ∨ ((3 + (n : Int) < 3 + (m : Int)) ∧ ((l1 : Int) < m1 ∨ l1 = m1 ∧ (l3 : Int) < m3) ∧ ((d1 : Int) < e1 ∨ d1 = e1 ∧ (d3 : Int) < e3)) := by
      rcases HC.out with h | h
      · exact .inl ⟨Lib.hid h.1, h.2⟩
      · exact .inr ⟨by omega, by omega, by omega⟩
    clear HC c1 c2
    rcases hcase with ⟨h1, rfl, rfl, rfl, rfl⟩ | ⟨h0, h1 | ⟨rfl, h1⟩, h2 | ⟨rfl, h2⟩⟩
    case' inl => obtain rfl := h1.out
    all_goals
      go_wp2_with fail
      refine (awake_any _).mono ?_
      rintro e w5 ⟨_, rfl, rfl, H1⟩
      replace H := H.join H1
      clear H1
      go_wp2_with fail
      go_ret
      exact ⟨_, rfl, rfl, H⟩
end Go.Proofs.Yteoecchggjmffaa
/- flate: the walks of the laws on the fixed codes, on what is stored, and packed by the fixed codes. -/
namespace Go.Proofs.Yteoecchggjmffaa
open Go.RowKit

theorem same_own {w0 w : World} {ps : List Piece} {v1 v2 : Value} {n : Nat} {xs : List Int} (H : Own w0 w ps) (h1 : Rd w 1 v1 n (nums xs)) (h2 : Rd w 1 v2 n (nums xs)) :
    Calls Try.prog 17 #[v1, v2] w (Ret fun r w' => r = .bool true ∧ Own w0 w' ps) := by
  refine (same_quiet v1 v2 n n xs xs w h1 h2).mono ?_
  rintro e w' ⟨rfl, k, rfl⟩
  exact ⟨_, rfl, by simp, H.drewN k⟩
set_option maxRecDepth 100000 in
set_option maxHeartbeats 1600000 in
theorem lawfixed_any (w : World) : Calls Try.prog 4 #[] w (Ret fun r w' => r = .bool true ∧ Own w w' []) := by
  have H := Own.start w
  go_enter Try.func4, Try.ntmps4
  go_wp2_with fail
  refine (fixed_any _).mono ?_
  rintro e w1 ⟨_, rfl, v, u, rfl, H1⟩
  replace H := H.join H1
  clear H1
  obtain ⟨av, cv, rfl, -⟩ := (H.front 1 rfl).rd.shape
  obtain ⟨au, cu, rfl, -⟩ := H.rd.shape
  go_wp2_with fail
  refine (rfixed_any _).mono ?_
  rintro e w2 ⟨_, rfl, v2, u2, rfl, H1⟩
  replace H := H.join H1
  clear H1
  obtain ⟨av2, cv2, rfl, -⟩ := (H.front 1 rfl).rd.shape
  obtain ⟨au2, cu2, rfl, -⟩ := H.rd.shape
  go_wp2_with fail
  refine (same_own H (H.front 3 rfl).rd (H.front 1 rfl).rd).mono ?_
  rintro e w3 ⟨_, rfl, rfl, H1⟩
  replace H := H1
  clear H1
  go_wp2_with fail
  refine (same_own H (H.front 2 rfl).rd H.rd).mono ?_
  rintro e w4 ⟨_, rfl, rfl, H1⟩
  replace H := H1
  clear H1
  go_wp2_with fail
  refine (awake_any _).mono ?_
  rintro e w5 ⟨_, rfl, rfl, H1⟩
  replace H := H.join H1
  go_wp2_with fail
  go_ret
  exact ⟨_, rfl, rfl, H.bare⟩
set_option maxRecDepth 100000 in
set_option maxHeartbeats 1600000 in
theorem lawstores_any (s : ByteArray) (w : World) : Calls Try.prog 5 #[.string s] w (Ret fun r w' => r = .bool true ∧ Own w w' []) := by
  have H := Own.start w
  have fin : ∀ t : ByteArray, t.size ≤ 200000 → (∀ w1, Calls Try.prog 18 #[.string t] w1 (Ret fun r w' => r = .string (textOf (storeF t)) ∧ Own w1 w' [])) ∧ (∀ w1, Calls Try.prog 19 #[.string t] w1 (Ret fun r w' => r = .string (textOf (storeF t)) ∧ Own w1 w' [])) := fun t ht => ⟨fun w1 => store_any t (by omega), fun w1 => rstore_any t (by omega)⟩
  obtain ⟨N, hN⟩ : ∃ N, s.size = N := ⟨_, rfl⟩
  by_cases h : 200000 < N
  case' pos =>
    have hI : (200000 : Int) < (N : Int) := by omega
    have hc : (200000 : Int) ≤ (N : Int) := by omega
    obtain ⟨t, ht⟩ : ∃ t, s.extract 0 200000 = t := ⟨_, rfl⟩
    obtain ⟨K1, K2⟩ := fin t (by rw [← ht, ByteArray.size_extract]; omega)
  case' neg =>
    have hI : ¬ (200000 : Int) < (N : Int) := by omega
    obtain ⟨t, ht⟩ : ∃ t, s = t := ⟨_, rfl⟩
    obtain ⟨K1, K2⟩ := fin t (by rw [← ht]; omega)
    subst ht
  all_goals
    have K1 := Lib.hid K1
    have K2 := Lib.hid K2
    clear fin h
    go_enter Try.func5, Try.ntmps5
    go_wp2_with fail
    refine (K1.out _).mono ?_
    rintro e w1 ⟨_, rfl, rfl, H1⟩
    replace H := H.join H1
    clear H1
    go_wp2_with fail
    refine (K2.out _).mono ?_
    rintro e w2 ⟨_, rfl, rfl, H1⟩
    replace H := H.join H1
    clear H1
    go_wp2_with fail
    refine (awake_any _).mono ?_
    rintro e w5 ⟨_, rfl, rfl, H1⟩
    replace H := H.join H1
    go_wp2_with fail
    go_ret
    exact ⟨_, rfl, rfl, H.bare⟩
theorem cut_any (s : ByteArray) (w : World) : Calls Try.prog 20 #[.string s] w (Ret fun r w' => (∃ t : ByteArray, r = .string t ∧ t.size ≤ 2000) ∧ Own w w' []) := by
  have H := Own.start w
  obtain ⟨N, hN⟩ : ∃ N, s.size = N := ⟨_, rfl⟩
  by_cases h : 2000 < N
  · have hI : (2000 : Int) < (N : Int) := by omega
    have hc : (2000 : Int) ≤ (N : Int) := by omega
    have hs : Hid ((s.extract 0 2000).size ≤ 2000) := Lib.hid (by rw [ByteArray.size_extract]; omega)
    go_enter Try.func20, Try.ntmps20
    go_wp2_with fail
    go_ret
    exact ⟨_, rfl, ⟨_, rfl, hs.out⟩, H⟩
  · have hI : ¬ (2000 : Int) < (N : Int) := by omega
    have hs : Hid (s.size ≤ 2000) := Lib.hid (by omega)
    go_enter Try.func20, Try.ntmps20
    go_wp2_with fail
    go_ret
    exact ⟨_, rfl, ⟨_, rfl, hs.out⟩, H⟩
set_option maxRecDepth 100000 in
set_option maxHeartbeats 1600000 in
theorem lawsimple_any (s : ByteArray) (w : World) : Calls Try.prog 6 #[.string s] w (Ret fun r w' => r = .bool true ∧ Own w w' []) := by
  have H := Own.start w
  go_enter Try.func6, Try.ntmps6
  go_wp2_with fail
  refine (cut_any s _).mono ?_
  rintro e w1 ⟨_, rfl, ⟨t, rfl, ht⟩, H1⟩
  replace H := H.join H1
  clear H1
  go_wp2_with fail
  refine (simple_any t (by omega)).mono ?_
  rintro e w2 ⟨_, rfl, rfl, H1⟩
  replace H := H.join H1
  clear H1
  go_wp2_with fail
  refine (rsimple_any t (by omega)).mono ?_
  rintro e w3 ⟨_, rfl, rfl, H1⟩
  replace H := H.join H1
  clear H1
  go_wp2_with fail
  refine (awake_any _).mono ?_
  rintro e w5 ⟨_, rfl, rfl, H1⟩
  replace H := H.join H1
  go_wp2_with fail
  go_ret
  exact ⟨_, rfl, rfl, H.bare⟩
end Go.Proofs.Yteoecchggjmffaa
