/-
  net, the document's answer: the walk of Next.
-/
import Derived.Test.YtnpflnplpipipaaNetS
import Derived.Test.YtnpflnplpipipaaNetO
namespace Go.Proofs.Ytnpflnplpipipaa
open Go.RowKit Go.Maps

/-- The first of the least time among the first n. -/
def FirstX {X : Type} (M : List (It X)) (n j : Nat) : Prop := j < n ∧ ∃ m, M[j]? = some m ∧ (∀ (i : Nat) (y : It X), i < n → M[i]? = some y → m.at_ ≤ y.at_) ∧ ∀ (i : Nat) (y : It X), i < j → M[i]? = some y → m.at_ < y.at_
theorem OrdX.least {X : Type} {M : List (It X)} {k j : Nat} {m : It X} (h : OrdX M k) (hj : M[j]? = some m) (hf : FirstX M M.length j) : ∀ y ∈ M, ¬ y.lt m := by
  obtain ⟨hjl, m', hm', h1, h2⟩ := hf
  rw [hj] at hm'
  obtain rfl := Option.some.inj hm'
  intro y hy
  obtain ⟨i, hi, rfl⟩ := List.getElem_of_mem hy
  have a1 := h1 i _ hi (List.getElem?_eq_getElem hi)
  unfold It.lt
  rcases Nat.lt_trichotomy i j with hij | hij | hij
  · have a2 := h2 i _ hij (List.getElem?_eq_getElem hi)
    omega
  · subst hij
    rw [List.getElem?_eq_getElem hi] at hj
    rw [Option.some.inj hj]
    omega
  · have a3 := List.pairwise_iff_getElem.1 h.1 j i hjl hi hij
    rw [List.getElem?_eq_getElem hjl] at hj
    rw [Option.some.inj hj] at a3
    omega
theorem Rd.tailN {w : World} {size n b o cap k : Nat} {xs : List Value} (h : Rd w size (.slice (Option.some ⟨b, o, none⟩) n cap) n xs) (hk : k ≤ n) :
    Rd w size (.slice (if cap = k then Option.some ⟨b, o, none⟩ else Option.some ⟨b, o + k * size, none⟩) (n - k) (cap - k)) (n - k) (xs.drop (k * size)) := by
  have h1 := h.tail hk
  by_cases hc : cap = k
  · subst hc
    obtain ⟨hl, a, c, e, hle, hm, _⟩ := h
    cases e
    have hn : n = cap := by omega
    subst hn
    rw [if_pos rfl, Nat.sub_self]
    have hx : xs.drop (n * size) = [] := List.drop_eq_nil_of_le (by omega)
    rw [hx]
    exact ⟨by simp, _, _, rfl, by omega, by simp [maxLen], by simp, fun ad _ j u hu => by simp at hu⟩
  · rw [if_neg hc]
    have e : (⟨b, o, none⟩ : Addr).add (k * size) = ⟨b, o + k * size, none⟩ := Addr.add_lit ..
    rw [e] at h1
    exact h1

def RNextQ (w0 : World) (ps : List Piece) (g : Nat) (K D : Int) (F : List Fa) (late : Int × Int → Int) (m : Nat) (M : List (It (Int × ByteArray))) (now : Int) (v : Value) (w' : World) : Prop :=
  ((∀ x ∈ M, now < x.at_) ∧ v = .tuple #[.int .i64 0, .string ⟨#[]⟩, .bool false] ∧ Own w0 w' (RNetP g K D F late m M :: ps)) ∨
      ∃ j x, M[j]? = some x ∧ FirstX M M.length j ∧ x.at_ ≤ now ∧ v = .tuple #[.int .i64 x.x.1, .string x.x.2, .bool true] ∧ Own w0 w' (RNetP g K D F late m (M.eraseIdx j) :: ps)

section
variable {w0 w : World} {ps : List Piece} {g : Nat} {K D : Int} {F : List Fa} {late : Int × Int → Int} {m : Nat} {M : List (It (Int × ByteArray))}
set_option maxRecDepth 100000 in
set_option maxHeartbeats 6400000 in
theorem rnext_any (now : Int) (H : Own w0 w (RNetP g K D F late m M :: ps)) (hl : M.length ≤ 100000) :
    Calls Try.prog 17 #[.pointer (some ⟨g, 0, none⟩), .int .i64 now] w (Ret (RNextQ w0 ps g K D F late m M now)) := by
  have HO := rnet_open H
  clear H
  obtain ⟨v, u, z, L, hL, hLm, H⟩ := HO
  obtain ⟨n, hn⟩ : ∃ n, Hid (M.length = n) := ⟨_, rfl⟩
  rw [hn.out] at H hl
  obtain ⟨va, vc, rfl, hv1, hv2⟩ := (H.front 3 rfl).rd.shape
  have HL := Lib.hid hL
  clear hL
  have fin : ∀ (wz : World) (M' : List (It (Int × ByteArray))) (z' : Value), Own w0 wz (blk g (.cells #[.int .i64 K, .int .i64 D, v, u, z'] 47) :: sld 30 3 v F.length (rows fcell F) :: slc 67 3 u L.length (rows lcell L) :: slc 69 3 z' M'.length (rows pcell M') :: ps) → Own w0 wz (RNetP g K D F late m M' :: ps) := fun wz M' z' h => rnet_shut HL.out hLm h
  have FIN := Lib.hid fin
  clear fin HL
  go_enter Try.func17, Try.ntmps17
  go_wp2_with fail
  go_loopw [7, 8] (fun s7 s8 wr => ∃ (i : Nat) (k : Int), i ≤ n ∧ s8 = .int .i64 i ∧ s7 = .int .i64 k ∧ Hid ((k = -1 ∧ ∀ (a : Nat) (y : It (Int × ByteArray)), a < i → M[a]? = some y → now < y.at_) ∨ ∃ j : Nat, k = j ∧ FirstX M i j ∧ ∀ y, M[j]? = some y → y.at_ ≤ now) ∧ Own w0 wr (blk g (.cells #[.int .i64 K, .int .i64 D, v, u, .slice va n vc] 47) :: sld 30 3 v F.length (rows fcell F) :: slc 67 3 u L.length (rows lcell L) :: slc 69 3 (.slice va n vc) n (rows pcell M) :: ps)) (fun _ s8 _ => n - (intOf s8).toNat)
  case atStart => exact ⟨0, -1, Nat.zero_le _, rfl, rfl, Lib.hid (.inl ⟨rfl, fun a y ha => by omega⟩), H⟩
  case round =>
    clear H
    obtain ⟨i, k, hi, rfl, rfl, hF, H⟩ := hrel
    have c0 := H.cells
    by_cases hlt : i < n
    · obtain ⟨y, hy⟩ := get_of_lt (l := M) (k := i) (by rw [hn.out]; exact hlt)
      obtain ⟨b, _, e, _⟩ := (H.front 3 rfl).at (by rw [rows_length pcell pcell_length, hn.out]; omega)
      cases e
      have HY := Lib.hid (((rows_get pcell pcell_length hy 0 (by omega)).trans rfl : (rows pcell M)[i * 3 + 0]? = some (.int .i64 y.at_)))
      have hltI : (i : Int) < (n : Int) := by omega
      rcases hF.out with ⟨rfl, hall⟩ | ⟨j, rfl, hF1, hdue⟩
      · by_cases hd : y.at_ ≤ now
        · have hf : Hid (FirstX M (i + 1) i ∧ ∀ y, M[i]? = some y → y.at_ ≤ now) := Lib.hid ⟨⟨by omega, y, hy, fun a z ha hz => (by
              by_cases hai : a = i
              · subst hai; rw [hy] at hz; cases hz; exact Int.le_refl _
              · have := hall a z (by omega) hz; omega), fun a z ha hz => (by have := hall a z ha hz; omega)⟩, fun z hz => (by rw [hy] at hz; cases hz; exact hd)⟩
          clear hy hall hF
          go_upto_region 5 with (fail)
          clear c0
          refine wp_region_calm (fun w1 => Own w0 w1 (blk g (.cells #[.int .i64 K, .int .i64 D, v, u, .slice (some ⟨b, 0, none⟩) n vc] 47) :: sld 30 3 v F.length (rows fcell F) :: slc 67 3 u L.length (rows lcell L) :: slc 69 3 (.slice (some ⟨b, 0, none⟩) n vc) n (rows pcell M) :: ps)) 32 (by kernel_rfl) (by kernel_rfl) H.drew ?_
          simp only [List.take_succ_cons, List.take_zero, List.drop_succ_cons, List.drop_zero]
          repeat
            first
            | (refine calm_value (v := ?_) (by decide) rfl (fun σ w1 hS => ?_) ?_
               rotate_left
               · have c0 := hS.cells; have c1 := (hS.front 3 rfl).rd.cell HY.out; simp only [Nat.zero_add, Nat.add_zero] at c1
                 first | (go_simp; rfl) | rfl
               simp only [Act.put, List.setIfInBounds_toArray, List.set_cons_zero, List.set_cons_succ])
            | (refine calm_skip (by decide) rfl ?_
               simp only [Act.put, List.setIfInBounds_toArray, List.set_cons_zero, List.set_cons_succ])
          refine calm_nil ?_
          intro wd HD
          clear H
          go_wp2
          go_round
          case rel => exact ⟨i + 1, i, by omega, by go_num, rfl, Lib.hid (.inr ⟨i, rfl, hf.out⟩), HD⟩
          case measure => simp [intOf]; omega
        · have hd2 : now < y.at_ := by omega
          have hdB : decide (y.at_ ≤ now) = false := by simp; omega
          have hf : Hid (∀ (a : Nat) (z : It (Int × ByteArray)), a < i + 1 → M[a]? = some z → now < z.at_) := Lib.hid fun a z ha hz => (by
            by_cases hai : a = i
            · subst hai; rw [hy] at hz; cases hz; exact hd2
            · exact hall a z (by omega) hz)
          clear hy hall hF hd
          go_upto_region 5 with (fail)
          clear c0
          refine wp_region_calm (fun w1 => Own w0 w1 (blk g (.cells #[.int .i64 K, .int .i64 D, v, u, .slice (some ⟨b, 0, none⟩) n vc] 47) :: sld 30 3 v F.length (rows fcell F) :: slc 67 3 u L.length (rows lcell L) :: slc 69 3 (.slice (some ⟨b, 0, none⟩) n vc) n (rows pcell M) :: ps)) 32 (by kernel_rfl) (by kernel_rfl) H.drew ?_
          simp only [List.take_succ_cons, List.take_zero, List.drop_succ_cons, List.drop_zero]
          repeat
            first
            | (refine calm_value (v := ?_) (by decide) rfl (fun σ w1 hS => ?_) ?_
               rotate_left
               · have c0 := hS.cells; have c1 := (hS.front 3 rfl).rd.cell HY.out; simp only [Nat.zero_add, Nat.add_zero] at c1
                 first | (go_simp; rfl) | rfl
               simp only [Act.put, List.setIfInBounds_toArray, List.set_cons_zero, List.set_cons_succ])
            | (refine calm_skip (by decide) rfl ?_
               simp only [Act.put, List.setIfInBounds_toArray, List.set_cons_zero, List.set_cons_succ])
          refine calm_nil ?_
          intro wd HD
          clear H
          go_wp2
          go_round
          case rel => exact ⟨i + 1, -1, by omega, by go_num, rfl, Lib.hid (.inl ⟨rfl, hf.out⟩), HD⟩
          case measure => simp [intOf]; omega
      · have HF1 := Lib.hid hF1
        obtain ⟨hj, x, hx, hx1, hx2⟩ := hF1
        have hxd := hdue x hx
        have HMJ := Lib.hid (((rows_get pcell pcell_length hx 0 (by omega)).trans rfl : (rows pcell M)[j * 3 + 0]? = some (.int .i64 x.at_)))
        have hjI : (j : Int) < (n : Int) := by omega
        have hj0 : (0 : Int) ≤ (j : Int) := by omega
        have hjB : decide ((j : Int) < 0) = false := by simp
        by_cases hd : y.at_ ≤ now
        · by_cases hlt2 : y.at_ < x.at_
          · have hf : Hid (FirstX M (i + 1) i ∧ ∀ y, M[i]? = some y → y.at_ ≤ now) := Lib.hid ⟨⟨by omega, y, hy, fun a z ha hz => (by
                by_cases hai : a = i
                · subst hai; rw [hy] at hz; cases hz; exact Int.le_refl _
                · have := hx1 a z (by omega) hz; omega), fun a z ha hz => (by have := hx1 a z ha hz; omega)⟩, fun z hz => (by rw [hy] at hz; cases hz; exact hd)⟩
            clear hy hx hx1 hx2 hF hdue
            go_upto_region 5 with (fail)
            clear c0
            refine wp_region_calm (fun w1 => Own w0 w1 (blk g (.cells #[.int .i64 K, .int .i64 D, v, u, .slice (some ⟨b, 0, none⟩) n vc] 47) :: sld 30 3 v F.length (rows fcell F) :: slc 67 3 u L.length (rows lcell L) :: slc 69 3 (.slice (some ⟨b, 0, none⟩) n vc) n (rows pcell M) :: ps)) 32 (by kernel_rfl) (by kernel_rfl) H.drew ?_
            simp only [List.take_succ_cons, List.take_zero, List.drop_succ_cons, List.drop_zero]
            repeat
              first
              | (refine calm_value (v := ?_) (by decide) rfl (fun σ w1 hS => ?_) ?_
                 rotate_left
                 · have c0 := hS.cells; have c1 := (hS.front 3 rfl).rd.cell HY.out; simp only [Nat.zero_add, Nat.add_zero] at c1; have c2 := (hS.front 3 rfl).rd.cell HMJ.out; simp only [Nat.zero_add, Nat.add_zero] at c2
                   first | (go_simp; rfl) | rfl
                 simp only [Act.put, List.setIfInBounds_toArray, List.set_cons_zero, List.set_cons_succ])
              | (refine calm_skip (by decide) rfl ?_
                 simp only [Act.put, List.setIfInBounds_toArray, List.set_cons_zero, List.set_cons_succ])
            refine calm_nil ?_
            intro wd HD
            clear H
            go_wp2
            go_round
            case rel => exact ⟨i + 1, i, by omega, by go_num, rfl, Lib.hid (.inr ⟨i, rfl, hf.out⟩), HD⟩
            case measure => simp [intOf]; omega
          · have hlt3 : x.at_ ≤ y.at_ := by omega
            have hf : Hid (FirstX M (i + 1) j ∧ ∀ y, M[j]? = some y → y.at_ ≤ now) := Lib.hid ⟨⟨by omega, x, hx, fun a z ha hz => (by
                by_cases hai : a = i
                · subst hai; rw [hy] at hz; cases hz; exact hlt3
                · exact hx1 a z (by omega) hz), hx2⟩, hdue⟩
            clear hy hx hx1 hx2 hF hdue hlt2
            go_upto_region 5 with (fail)
            clear c0
            refine wp_region_calm (fun w1 => Own w0 w1 (blk g (.cells #[.int .i64 K, .int .i64 D, v, u, .slice (some ⟨b, 0, none⟩) n vc] 47) :: sld 30 3 v F.length (rows fcell F) :: slc 67 3 u L.length (rows lcell L) :: slc 69 3 (.slice (some ⟨b, 0, none⟩) n vc) n (rows pcell M) :: ps)) 32 (by kernel_rfl) (by kernel_rfl) H.drew ?_
            simp only [List.take_succ_cons, List.take_zero, List.drop_succ_cons, List.drop_zero]
            repeat
              first
              | (refine calm_value (v := ?_) (by decide) rfl (fun σ w1 hS => ?_) ?_
                 rotate_left
                 · have c0 := hS.cells; have c1 := (hS.front 3 rfl).rd.cell HY.out; simp only [Nat.zero_add, Nat.add_zero] at c1; have c2 := (hS.front 3 rfl).rd.cell HMJ.out; simp only [Nat.zero_add, Nat.add_zero] at c2
                   first | (go_simp; rfl) | rfl
                 simp only [Act.put, List.setIfInBounds_toArray, List.set_cons_zero, List.set_cons_succ])
              | (refine calm_skip (by decide) rfl ?_
                 simp only [Act.put, List.setIfInBounds_toArray, List.set_cons_zero, List.set_cons_succ])
            refine calm_nil ?_
            intro wd HD
            clear H
            go_wp2
            go_round
            case rel => exact ⟨i + 1, j, by omega, by go_num, rfl, Lib.hid (.inr ⟨j, rfl, hf.out⟩), HD⟩
            case measure => simp [intOf]; omega
        · have hd2 : now < y.at_ := by omega
          have hdB : decide (y.at_ ≤ now) = false := by simp; omega
          have hf : Hid (FirstX M (i + 1) j ∧ ∀ y, M[j]? = some y → y.at_ ≤ now) := Lib.hid ⟨⟨by omega, x, hx, fun a z ha hz => (by
                by_cases hai : a = i
                · subst hai; rw [hy] at hz; cases hz; omega
                · exact hx1 a z (by omega) hz), hx2⟩, hdue⟩
          clear hy hx hx1 hx2 hF hdue hd
          go_upto_region 5 with (fail)
          clear c0
          refine wp_region_calm (fun w1 => Own w0 w1 (blk g (.cells #[.int .i64 K, .int .i64 D, v, u, .slice (some ⟨b, 0, none⟩) n vc] 47) :: sld 30 3 v F.length (rows fcell F) :: slc 67 3 u L.length (rows lcell L) :: slc 69 3 (.slice (some ⟨b, 0, none⟩) n vc) n (rows pcell M) :: ps)) 32 (by kernel_rfl) (by kernel_rfl) H.drew ?_
          simp only [List.take_succ_cons, List.take_zero, List.drop_succ_cons, List.drop_zero]
          repeat
            first
            | (refine calm_value (v := ?_) (by decide) rfl (fun σ w1 hS => ?_) ?_
               rotate_left
               · have c0 := hS.cells; have c1 := (hS.front 3 rfl).rd.cell HY.out; simp only [Nat.zero_add, Nat.add_zero] at c1; have c2 := (hS.front 3 rfl).rd.cell HMJ.out; simp only [Nat.zero_add, Nat.add_zero] at c2
                 first | (go_simp; rfl) | rfl
               simp only [Act.put, List.setIfInBounds_toArray, List.set_cons_zero, List.set_cons_succ])
            | (refine calm_skip (by decide) rfl ?_
               simp only [Act.put, List.setIfInBounds_toArray, List.set_cons_zero, List.set_cons_succ])
          refine calm_nil ?_
          intro wd HD
          clear H
          go_wp2
          go_round
          case rel => exact ⟨i + 1, j, by omega, by go_num, rfl, Lib.hid (.inr ⟨j, rfl, hf.out⟩), HD⟩
          case measure => simp [intOf]; omega
    · obtain rfl : i = n := by omega
      rcases hF.out with ⟨rfl, hall⟩ | ⟨j, rfl, hF1, hdue⟩
      · have hno : Hid (∀ x ∈ M, now < x.at_) := Lib.hid fun z hz => by
          obtain ⟨t, ht, rfl⟩ := List.getElem_of_mem hz
          exact hall t _ (by rw [← hn.out]; exact ht) (List.getElem?_eq_getElem ht)
        clear hall hF
        go_wp2
        go_ret3
        exact ⟨_, rfl, .inl ⟨hno.out, rfl, FIN.out _ _ _ (by rw [hn.out]; exact H)⟩⟩
      · have HF1 := Lib.hid hF1
        obtain ⟨hj, x, hx, _, _⟩ := hF1
        have hxd := hdue x hx
        obtain ⟨b, _, e, _⟩ := (H.front 3 rfl).at (by rw [rows_length pcell pcell_length, hn.out]; omega)
        cases e
        have hjI : (j : Int) < (i : Int) := by omega
        have hj0 : (0 : Int) ≤ (j : Int) := by omega
        have r0 := (H.front 3 rfl).rd.cell ((rows_get pcell pcell_length hx 0 (by omega)).trans rfl)
        have r1 := (H.front 3 rfl).rd.cell ((rows_get pcell pcell_length hx 1 (by omega)).trans rfl)
        have r2 := (H.front 3 rfl).rd.cell ((rows_get pcell pcell_length hx 2 (by omega)).trans rfl)
        simp only [Nat.add_zero, Nat.zero_add] at r0 r1 r2
        have HX := Lib.hid hx
        clear hx hF hdue
        go_upto_region 11 with (fail)
        obtain ⟨xb, hxb⟩ : ∃ xb, wr.heap.size = xb := ⟨_, rfl⟩
        replace H := H.alloc (.cells #[.int .i64 x.at_, .int .i64 x.x.1, .string x.x.2] 69)
        rw [hxb] at H ⊢
        generalize wr.alloc (.cells #[.int .i64 x.at_, .int .i64 x.x.1, .string x.x.2] 69) = wb at *
        clear hxb r0 r1 r2 c0
        have hone : ∀ (l : List (It (Int × ByteArray))), ∀ u ∈ rows pcell l, u.oneCell' = true := by
          intro l u hu
          obtain ⟨x, _, hx⟩ := List.mem_flatMap.1 hu
          exact pcell_one x u hx
        have HONE := Lib.hid hone
        clear hone
        have hjc : (j : Int) ≤ (vc : Int) := by omega
        have hrd := (H.front 4 rfl).rd
        have htk := hrd.take (k := j) (by omega)
        have etk : (rows pcell M).take (j * 3) = rows pcell (M.take j) := rows_take pcell pcell_length M j
        rw [etk] at htk
        have HTK := Lib.hid htk
        clear htk etk hrd
        have c0 := (H.front 1 rfl).cells
        replace H := H.nil 69 3
        go_upto_region 12 with (at_builtin; refine wpList_append_sep rfl _ _ rfl Try.underlying45 parcelInfo rfl (by decide) rfl H (m := j) (news := rows pcell (M.take j)) (by exact HTK.out) (HONE.out _) (by omega) (by omega) ?_; clear H c0 HTK; intro v3 w3 H)
        obtain ⟨a3, c3, rfl, h31, h32⟩ := H.rd.shape
        have hsrc := (H.front 5 rfl).rd.tailN (k := j + 1) (by omega)
        have edr : (rows pcell M).drop ((j + 1) * 3) = rows pcell (M.drop (j + 1)) := rows_drop pcell pcell_length M (j + 1)
        rw [edr] at hsrc
        have hjI2 : (j : Int) + 1 ≤ (i : Int) := by omega
        have c0 := (H.front 2 rfl).cells
        have e0 : rows pcell (M.eraseIdx j) = rows pcell (M.take j) ++ rows pcell (M.drop (j + 1)) := by
          rw [List.eraseIdx_eq_take_drop_succ, rows_append]
        have e1 : (M.eraseIdx j).length = 0 + j + (i - (j + 1)) := by rw [List.length_eraseIdx, if_pos (by rw [hn.out]; omega), hn.out]; omega
        have E0 := Lib.hid e0
        have E1 := Lib.hid e1
        clear e0 e1 edr
        by_cases hcc : vc = j + 1
        · have hnk : i = j + 1 := by omega
          subst hnk
          subst hcc
          rw [if_pos rfl, Nat.sub_self] at hsrc
          have hz : Hid (rows pcell (M.drop (j + 1)) = []) := Lib.hid (by rw [List.drop_eq_nil_of_le (by rw [hn.out]; exact Nat.le_refl _)]; rfl)
          rw [hz.out] at hsrc
          have HSRC := Lib.hid hsrc
          clear hsrc
          go_upto_region 13 with (at_builtin; refine wpList_append_sep rfl _ _ rfl Try.underlying45 parcelInfo rfl (by decide) rfl H (m := 0) (news := []) (by exact HSRC.out) (by simp) (by omega) (by omega) ?_; clear H c0; intro v5 w5 H)
          obtain ⟨a5, c5, rfl, h51, h52⟩ := H.rd.shape
          go_upto_region 14 with (refine wpList_store_slice rfl _ _ rfl rfl (H.front 2 rfl) rfl (by kernel_rfl) (by simp) ?_; clear H; intro w6 H)
          obtain ⟨q, hq⟩ : ∃ q, Hid (0 + j + 0 = q) := ⟨_, rfl⟩
          have H : Own w0 w6 (blk g (.cells #[.int .i64 K, .int .i64 D, v, u, .slice a5 (0 + j + 0) c5] 47) :: slc 69 3 (.slice a5 (0 + j + 0) c5) (0 + j + 0) ([] ++ rows pcell (M.take j) ++ []) :: blk xb (.cells #[.int .i64 x.at_, .int .i64 x.x.1, .string x.x.2] 69) :: sld 30 3 v F.length (rows fcell F) :: slc 67 3 u L.length (rows lcell L) :: slc 69 3 (.slice (some ⟨b, 0, none⟩) (j + 1) (j + 1)) (j + 1) (rows pcell M) :: ps) := H
          refine wp_region_calm (fun w1 => Own w0 w1 (blk g (.cells #[.int .i64 K, .int .i64 D, v, u, .slice a5 (0 + j + 0) c5] 47) :: slc 69 3 (.slice a5 (0 + j + 0) c5) (0 + j + 0) ([] ++ rows pcell (M.take j) ++ []) :: blk xb (.cells #[.int .i64 x.at_, .int .i64 x.x.1, .string x.x.2] 69) :: sld 30 3 v F.length (rows fcell F) :: slc 67 3 u L.length (rows lcell L) :: slc 69 3 (.slice (some ⟨b, 0, none⟩) (j + 1) (j + 1)) (j + 1) (rows pcell M) :: ps)) 6 (by kernel_rfl) (by kernel_rfl) H.drew ?_
          simp only [List.take_succ_cons, List.take_zero, List.drop_succ_cons, List.drop_zero]
          repeat
            first
            | (refine calm_value (v := ?_) (by decide) rfl (fun σ w1 hS => ?_) ?_
               rotate_left
               · have c0 := (hS.front 2 rfl).cells
                 first | (go_simp; rfl) | rfl
               simp only [Act.put, List.setIfInBounds_toArray, List.set_cons_zero, List.set_cons_succ])
            | (refine calm_skip (by decide) rfl ?_
               simp only [Act.put, List.setIfInBounds_toArray, List.set_cons_zero, List.set_cons_succ])
          refine calm_nil ?_
          intro wd HD
          clear H
          go_wp2
          go_ret3
          refine ⟨_, rfl, .inr ⟨j, x, HX.out, by rw [hn.out]; exact HF1.out, hxd, rfl, FIN.out _ (M.eraseIdx j) (.slice a5 (0 + j + 0) c5) ?_⟩⟩
          rw [E0.out, E1.out]
          have H9 := ((((((HD.front 4 rfl).front 4 rfl).front 2 rfl).front 5 rfl).front 5 rfl).drop.drop)
          rw [hz.out]
          simpa using H9
        · rw [if_neg hcc, Nat.zero_add] at hsrc
          have HSRC := Lib.hid hsrc
          clear hsrc
          go_upto_region 13 with (at_builtin; refine wpList_append_sep rfl _ _ rfl Try.underlying45 parcelInfo rfl (by decide) rfl H (m := i - (j + 1)) (news := rows pcell (M.drop (j + 1))) (by exact HSRC.out) (HONE.out _) (by omega) (by omega) ?_; clear H c0; intro v5 w5 H)
          obtain ⟨a5, c5, rfl, h51, h52⟩ := H.rd.shape
          go_upto_region 14 with (refine wpList_store_slice rfl _ _ rfl rfl (H.front 2 rfl) rfl (by kernel_rfl) (by simp) ?_; clear H; intro w6 H)
          obtain ⟨q, hq⟩ : ∃ q, Hid (0 + j + (i - (j + 1)) = q) := ⟨_, rfl⟩
          have H : Own w0 w6 (blk g (.cells #[.int .i64 K, .int .i64 D, v, u, .slice a5 (0 + j + (i - (j + 1))) c5] 47) :: slc 69 3 (.slice a5 (0 + j + (i - (j + 1))) c5) (0 + j + (i - (j + 1))) ([] ++ rows pcell (M.take j) ++ rows pcell (M.drop (j + 1))) :: blk xb (.cells #[.int .i64 x.at_, .int .i64 x.x.1, .string x.x.2] 69) :: sld 30 3 v F.length (rows fcell F) :: slc 67 3 u L.length (rows lcell L) :: slc 69 3 (.slice (some ⟨b, 0, none⟩) i vc) i (rows pcell M) :: ps) := H
          refine wp_region_calm (fun w1 => Own w0 w1 (blk g (.cells #[.int .i64 K, .int .i64 D, v, u, .slice a5 (0 + j + (i - (j + 1))) c5] 47) :: slc 69 3 (.slice a5 (0 + j + (i - (j + 1))) c5) (0 + j + (i - (j + 1))) ([] ++ rows pcell (M.take j) ++ rows pcell (M.drop (j + 1))) :: blk xb (.cells #[.int .i64 x.at_, .int .i64 x.x.1, .string x.x.2] 69) :: sld 30 3 v F.length (rows fcell F) :: slc 67 3 u L.length (rows lcell L) :: slc 69 3 (.slice (some ⟨b, 0, none⟩) i vc) i (rows pcell M) :: ps)) 6 (by kernel_rfl) (by kernel_rfl) H.drew ?_
          simp only [List.take_succ_cons, List.take_zero, List.drop_succ_cons, List.drop_zero]
          repeat
            first
            | (refine calm_value (v := ?_) (by decide) rfl (fun σ w1 hS => ?_) ?_
               rotate_left
               · have c0 := (hS.front 2 rfl).cells
                 first | (go_simp; rfl) | rfl
               simp only [Act.put, List.setIfInBounds_toArray, List.set_cons_zero, List.set_cons_succ])
            | (refine calm_skip (by decide) rfl ?_
               simp only [Act.put, List.setIfInBounds_toArray, List.set_cons_zero, List.set_cons_succ])
          refine calm_nil ?_
          intro wd HD
          clear H
          go_wp2
          go_ret3
          refine ⟨_, rfl, .inr ⟨j, x, HX.out, by rw [hn.out]; exact HF1.out, hxd, rfl, FIN.out _ (M.eraseIdx j) (.slice a5 (0 + j + (i - (j + 1))) c5) ?_⟩⟩
          rw [E0.out, E1.out]
          have H9 := ((((((HD.front 4 rfl).front 4 rfl).front 2 rfl).front 5 rfl).front 5 rfl).drop.drop)
          simpa using H9
end
end Go.Proofs.Ytnpflnplpipipaa
