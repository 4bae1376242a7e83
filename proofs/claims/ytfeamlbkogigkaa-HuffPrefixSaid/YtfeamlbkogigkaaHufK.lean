/-
  huff: the walks of counts and left.
-/
import Derived.Test.YtfeamlbkogigkaaHufR2
import Derived.Laws.ResultCell
namespace Go.Proofs.Ytfeamlbkogigkaa
open Go.RowKit

/-- How many symbols have each length. -/
def countsF (l : List Int) : List Int := (bumpF (zerosF 16) l).set 0 0
theorem arr_set (cs : List Int) (k : Nat) (v : Int) : (nums cs).toArray.setIfInBounds k (.int .i64 v) = (nums (cs.set k v)).toArray := by
  rw [List.setIfInBounds_toArray, nums_set]
theorem arr_get {cs : List Int} {k : Nat} (h : k < cs.length) : (nums cs).toArray[k]? = some (.int .i64 (cs.getD k 0)) := by
  rw [List.getElem?_toArray]
  exact nums_get (getD_get h)
theorem arr_zero : (nums (zerosF 16)).toArray = #[.int .i64 0, .int .i64 0, .int .i64 0, .int .i64 0, .int .i64 0, .int .i64 0, .int .i64 0, .int .i64 0, .int .i64 0, .int .i64 0, .int .i64 0, .int .i64 0, .int .i64 0, .int .i64 0, .int .i64 0, .int .i64 0] := rfl
theorem nums_one (cs : List Int) : ∀ u ∈ nums cs, u.oneCell' = true := by
  intro u hu
  obtain ⟨x, _, rfl⟩ := List.mem_map.1 hu
  rfl
theorem bump_bound (l : List Int) : ∀ (o : List Int) (j : Nat) (B : Int), (∀ j, 0 ≤ o.getD j 0 ∧ o.getD j 0 ≤ B) → 0 ≤ (bumpF o l).getD j 0 ∧ (bumpF o l).getD j 0 ≤ B + l.length := by
  induction l with
  | nil => intro o j B h; have := h j; simp [bumpF] at this ⊢; omega
  | cons x t ih =>
    intro o j B h
    have h2 : ∀ j, 0 ≤ (bump1 o x).getD j 0 ∧ (bump1 o x).getD j 0 ≤ B + 1 := by
      intro j
      unfold bump1
      have h1 := h j
      have h3 := h x.toNat
      rw [List.getD_eq_getElem?_getD, List.getElem?_set]
      rw [List.getD_eq_getElem?_getD] at h1
      split
      · split
        · simp; simp at h3; omega
        · simp; have := h 0; omega
      · omega
    have := ih (bump1 o x) j (B + 1) h2
    show 0 ≤ (bumpF (bump1 o x) t).getD j 0 ∧ (bumpF (bump1 o x) t).getD j 0 ≤ _
    rw [List.length_cons]
    omega
theorem zeros_get (n j : Nat) : (zerosF n).getD j 0 = 0 := by
  unfold zerosF
  rw [List.getD_eq_getElem?_getD, List.getElem?_replicate]
  split <;> rfl

theorem results_cell2 {P : Program} {fn : Func} {p u : Tmp} {ty : TypeId} (h : fn.results = #[.cell p ty, .tmp u]) (tmps : Array Value) (w : World) (g : Nat) (t : TypeId) (cs : Array Value) (fr : Nat × Nat) (d : TypeDesc)
    (hp : tmps.getD p undef = .pointer (some ⟨g, 0, none⟩)) (hg : w.heap[g]? = some (.cells cs t fr))
    (hu : P.underlying ty = some d) (hd : (match d with | .struct _ | .array _ _ => true | _ => false) = true) (hi : (P.info? ty).map (·.size) = some cs.size) :
    (results fn tmps).run P w = .ok (.tuple #[.agg cs, tmps.getD u undef]) w := by
  rw [results_cell_tmp h, hp]
  simp [asAddr, run_loadVar_row w g t ty cs fr d hg hu hd hi, Result.andThen]
theorem arrInfo (cs : List Int) (h : cs.length = 16) : (Try.prog.info? 69).map (·.size) = some (nums cs).toArray.size := by
  rw [List.size_toArray, nums_length, h]
  kernel_rfl
theorem store_whole (a b : List Value) (h : b.length = a.length) : (a.toArray.toList.take 0 ++ b ++ a.toArray.toList.drop (0 + b.length)).toArray = b.toArray := by
  simp [h]
section
variable {w0 w : World} {ps : List Piece} {ops : Array Oper} {rest : List Oper} {o : Oper} {a : Act} {Q : Exit → Act → World → Prop}
/-- A whole array of 16 is read. -/
theorem wpList_load16 (hgd : o.guard = none) (x : Operand) (ho : o.op = .load 69 x) {g : Nat} (hx : a.eval x = .pointer (some ⟨g, 0, none⟩)) {cs : List Int} (hl : cs.length = 16) (H : Own w0 w (blk g (.cells (nums cs).toArray 69) :: ps))
    (h : wpList Try.prog ops Q rest (a.put o.dst (.agg (nums cs).toArray)) w) : wpList Try.prog ops Q (o :: rest) a w :=
  wpList_load_row hgd 69 x ho g hx 69 (nums cs).toArray (0, 0) _ H.block.1 Try.underlying69 rfl (arrInfo cs hl) h
/-- A whole array of 16 is stored. -/
theorem wpList_store16 (hgd : o.guard = none) (x y : Operand) (ho : o.op = .store 69 x y) {g : Nat} (hx : a.eval x = .pointer (some ⟨g, 0, none⟩)) {cs ds : List Int} (hl : cs.length = 16) (hd : ds.length = 16)
    (H : Own w0 w (blk g (.cells (nums cs).toArray 69) :: ps)) (hv : a.eval y = .agg (nums ds).toArray)
    (h : ∀ w', Own w0 w' (blk g (.cells (nums ds).toArray 69) :: ps) → wpList Try.prog ops Q rest (a.put o.dst undef) w') : wpList Try.prog ops Q (o :: rest) a w :=
  wpList_store_agg hgd x y ho hx H hv (by have := arrInfo ds hd; rw [List.size_toArray] at this; exact this) (by rw [List.size_toArray, nums_length, nums_length, hl, hd]; omega) (nums_one ds) (store_whole _ _ (by rw [nums_length, nums_length, hl, hd])) h
end

set_option maxHeartbeats 3200000 in
theorem counts_any {w : World} {v : Value} {n : Nat} {F : List Int} (hr : Rd w 1 v n (nums F)) (hn : n ≤ 1000000) :
    Calls Try.prog 37 #[v] w (Ret fun r w' => (∃ cs : List Int, cs.length = 16 ∧ r = .tuple #[.agg (nums cs).toArray, .bool (mayF F)] ∧ (mayF F = true → cs = countsF F)) ∧ Own w w' []) := by
  have hl := Lib.hid (rd_len hr)
  obtain ⟨a, c, rfl, hc1, hc2⟩ := hr.shape
  have HR := Lib.hid hr
  obtain ⟨Z, hZ⟩ : ∃ Z, Hid (mayF F = Z) := ⟨_, rfl⟩
  rw [hZ.out]
  clear hr
  have H := (Own.start w).alloc2 (.cells (nums (zerosF 16)).toArray 69) (.cells (nums (zerosF 16)).toArray 69)
  rw [arr_zero] at H
  go_enter Try.func37, Try.ntmps37
  go_upto_region 2 with (fail)
  generalize (w.alloc _).alloc _ = wa at *
  rw [← arr_zero] at H
  obtain ⟨cb, hcb⟩ : ∃ g, w.heap.size + 1 = g := ⟨_, rfl⟩
  rw [hcb] at H ⊢
  generalize w.heap.size = rb at *
  clear hcb
  have hzl : (zerosF 16).length = 16 := by simp [zerosF]
  by_cases h320 : 320 < n
  · have e : Hid (Z = false) := Lib.hid (by
      rw [← hZ.out]; unfold mayF
      have := hl.out
      rw [decide_eq_false (by omega), Bool.false_and])
    have hI : (320 : Int) < (n : Int) := by omega
    go_wp2_with (first
      | (refine wpList_load16 rfl _ rfl rfl hzl H ?_)
      | (refine wpList_store16 rfl _ _ rfl rfl hzl hzl H.swap rfl ?_; clear H; intro w2 H))
    refine bodyPost_ret (results_cell2 rfl _ _ rb _ _ _ _ rfl H.block.1 Try.underlying69 rfl (arrInfo _ hzl)) rfl ?_
    exact ⟨_, rfl, ⟨_, hzl, by rw [e.out]; rfl, fun h => by rw [e.out] at h; cases h⟩, H.bare⟩
  · have hI : ¬ (320 : Int) < (n : Int) := by omega
    go_wp2_with fail
    go_loopw [13] (fun s13 wx => ∃ i : Nat, s13 = .int .i64 i ∧ i ≤ n ∧ Hid ((F.take i).all okLen = true) ∧ Own w wx [blk cb (.cells (nums (bumpF (zerosF 16) (F.take i))).toArray 69), blk rb (.cells (nums (zerosF 16)).toArray 69)]) (fun s13 _ => n - (intOf s13).toNat)
    case atStart => exact ⟨0, by go_num, by omega, Lib.hid rfl, by simpa [bumpF] using H⟩
    case round =>
      clear H
      obtain ⟨i, rfl, hi, hal, H⟩ := hrel
      have hbl : (bumpF (zerosF 16) (F.take i)).length = 16 := by rw [bumpF_length]; exact hzl
      by_cases hlt : i < n
      · have hI2 : (i : Int) < (n : Int) := by omega
        have hs := all_take_succ (p := okLen) (F := F) (i := i) (by have := hl.out; omega)
        have hbt : bumpF (zerosF 16) (F.take (i + 1)) = bump1 (bumpF (zerosF 16) (F.take i)) (F.getD i 0) := bump_take (getD_get (by have := hl.out; omega))
        have hbb := fun j => bump_bound (F.take i) (zerosF 16) j 0 (fun j => by rw [zeros_get]; omega)
        have hll : (F.take i).length ≤ 1000000 := by rw [List.length_take]; omega
        obtain ⟨b, o, rfl, c1⟩ := rd_at HR.out H hlt
        have hbad : okLen (F.getD i 0) = false → Hid (Z = false) := fun h => Lib.hid (by
          rw [← hZ.out]
          unfold mayF
          have : F.all okLen = false := by
            rw [List.all_eq_false]
            refine ⟨F.getD i 0, ?_, by rw [h]; simp⟩
            rw [List.getD_eq_getElem?_getD, List.getElem?_eq_getElem (by have := hl.out; omega)]
            exact List.getElem_mem _
          rw [this, Bool.and_false])
        rw [hal.out, Bool.true_and] at hs
        generalize F.getD i 0 = x at *
        generalize hcs : bumpF (zerosF 16) (F.take i) = cs at *
        by_cases h0 : x < 0
        · have e := hbad (by simp [okLen]; omega)
          clear hs hbad hbt hbb
          go_wp2_with (first
            | (refine wpList_load16 rfl _ rfl rfl hbl H ?_)
            | (refine wpList_store16 rfl _ _ rfl rfl hzl hbl H.swap rfl ?_; clear H; intro w2 H))
          refine bodyPost_ret (results_cell2 rfl _ _ rb _ _ _ _ rfl H.block.1 Try.underlying69 rfl (arrInfo _ hbl)) rfl ?_
          exact ⟨_, rfl, ⟨_, hbl, by rw [e.out]; rfl, fun h => by rw [e.out] at h; cases h⟩, H.bare⟩
        · by_cases h15 : 15 < x
          · have e := hbad (by simp [okLen]; omega)
            clear hs hbad hbt hbb
            go_wp2_with (first
              | (refine wpList_load16 rfl _ rfl rfl hbl H ?_)
              | (refine wpList_store16 rfl _ _ rfl rfl hzl hbl H.swap rfl ?_; clear H; intro w2 H))
            refine bodyPost_ret (results_cell2 rfl _ _ rb _ _ _ _ rfl H.block.1 Try.underlying69 rfl (arrInfo _ hbl)) rfl ?_
            exact ⟨_, rfl, ⟨_, hbl, by rw [e.out]; rfl, fun h => by rw [e.out] at h; cases h⟩, H.bare⟩
          · have e : Hid ((F.take (i + 1)).all okLen = true) := Lib.hid (by rw [hs]; simp [okLen]; omega)
            obtain ⟨m, rfl⟩ : ∃ m : Nat, x = m := ⟨x.toNat, by omega⟩
            have hb1 := hbb m
            have c0 := H.cells m
            rw [arr_get (by omega)] at c0
            have hst : (nums cs).toArray.setIfInBounds m (.int .i64 (cs.getD m 0 + 1)) = (nums (bump1 cs m)).toArray := arr_set _ _ _
            obtain ⟨y, hy⟩ : ∃ y, Hid (cs.getD m 0 = y) := ⟨_, rfl⟩
            rw [hy.out] at c0 hst hb1
            have hyw : IntKind.i64.wrap (y + 1) = y + 1 := IntWalk.i64_in _ ⟨by omega, by omega⟩
            have hmI : (m : Int) < 16 := by omega
            have HST := Lib.hid hst
            have HBT := Lib.hid hbt
            have hfit : m < (nums cs).toArray.size := by rw [List.size_toArray, nums_length]; omega
            clear hs hbad hbt hbb hst hb1
            go_wp2_with (refine wpList_store_int rfl _ _ rfl rfl H rfl (by kernel_rfl) hfit ?_; clear H c0; intro w2 H; rw [HST.out] at H)
            go_roundw
            case rel => exact ⟨i + 1, by go_num, by omega, e, by rw [HBT.out]; exact H⟩
            case measure => simp [intOf]; omega
      · obtain rfl : i = n := by omega
        have hI2 : ¬ (i : Int) < (i : Int) := by omega
        have e : Hid (Z = true) := Lib.hid (by
          rw [← hZ.out]; unfold mayF
          have h1 := hal.out
          rw [List.take_of_length_le (by have := hl.out; omega)] at h1
          rw [h1, Bool.and_true, hl.out]
          simp; omega)
        have hst : (nums (bumpF (zerosF 16) (F.take i))).toArray.setIfInBounds 0 (.int .i64 0) = (nums (countsF F)).toArray := by
          rw [arr_set, List.take_of_length_le (by have := hl.out; omega)]; rfl
        have hcl : (countsF F).length = 16 := by unfold countsF; rw [List.length_set, bumpF_length]; exact hzl
        have HST := Lib.hid hst
        have hfit : 0 < (nums (bumpF (zerosF 16) (F.take i))).toArray.size := by rw [List.size_toArray, nums_length]; omega
        clear hst
        go_wp2_with (first
          | (refine wpList_load16 rfl _ rfl rfl hcl H ?_)
          | (refine wpList_store_int rfl _ _ rfl rfl H rfl (by kernel_rfl) hfit ?_; clear H; intro w2 H; rw [HST.out] at H)
          | (refine wpList_store16 rfl _ _ rfl rfl hzl hcl H.swap rfl ?_; clear H; intro w2 H))
        refine bodyPost_ret (results_cell2 rfl _ _ rb _ _ _ _ rfl H.block.1 Try.underlying69 rfl (arrInfo _ hcl)) rfl ?_
        exact ⟨_, rfl, ⟨_, hcl, by rw [e.out]; rfl, fun _ => rfl⟩, H.bare⟩

/-- How many codes are left, of these counts. -/
def leftL : Int → List Int → Int
  | n, [] => n
  | n, k :: t => if 2 * n - k < 0 then -1 else leftL (2 * n - k) t
def leftF (cs : List Int) : Int := leftL 1 (cs.drop 1)

set_option maxHeartbeats 1600000 in
theorem left_any {w : World} {cs : List Int} (hl : cs.length = 16) (hb : ∀ k, 0 ≤ cs.getD k 0 ∧ cs.getD k 0 ≤ 1000000) :
    Calls Try.prog 38 #[.agg (nums cs).toArray] w (Ret fun r w' => r = .int .i64 (leftF cs) ∧ Own w w' []) := by
  obtain ⟨Z, hZ⟩ : ∃ Z, Hid (leftF cs = Z) := ⟨_, rfl⟩
  rw [hZ.out]
  have HB := Lib.hid hb
  have H := (Own.start w).alloc (.cells (nums cs).toArray 69)
  clear hb
  go_enter Try.func38, Try.ntmps38
  go_upto_region 2 with (fail)
  generalize w.alloc (.cells (nums cs).toArray 69) = wa at *
  generalize w.heap.size = b at *
  go_wp2_with fail
  go_loopw [3, 8] (fun s3 s8 wx => ∃ (j : Nat) (n : Int), s8 = .int .i64 j ∧ j ≤ 15 ∧ s3 = .int .i64 n ∧ 0 ≤ n ∧ Hid (n ≤ ((2 ^ j : Nat) : Int)) ∧ Hid (leftL n (cs.drop (1 + j)) = Z) ∧ Own w wx [blk b (.cells (nums cs).toArray 69)]) (fun _ s8 _ => 15 - (intOf s8).toNat)
  case atStart => exact ⟨0, 1, by go_num, by omega, by go_num, by omega, Lib.hid (by simp), Lib.hid hZ.out, H⟩
  case round =>
    clear H
    obtain ⟨j, n, rfl, hj, rfl, hn, hn2, hlf, H⟩ := hrel
    have hn3 : n ≤ 32768 := by
      have h1 := hn2.out
      have h2 : (2 ^ j : Nat) ≤ 2 ^ 15 := Nat.pow_le_pow_right (by omega) hj
      omega
    by_cases hlt : j < 15
    · have hI : (j : Int) < 15 := by omega
      have c0 := H.cells (1 + j)
      rw [arr_get (by omega)] at c0
      have hk := HB.out (1 + j)
      have hd : cs.drop (1 + j) = cs.getD (1 + j) 0 :: cs.drop (1 + (j + 1)) := by
        rw [List.drop_eq_getElem_cons (by omega), List.getD_eq_getElem?_getD, List.getElem?_eq_getElem (by omega)]
        rfl
      have hlf2 := hlf.out
      rw [hd, leftL] at hlf2
      generalize cs.getD (1 + j) 0 = k at *
      have hw1 : IntKind.i64.wrap (2 * n) = 2 * n := IntWalk.i64_in _ ⟨by omega, by omega⟩
      have hw2 : IntKind.i64.wrap (2 * n - k) = 2 * n - k := IntWalk.i64_in _ ⟨by omega, by omega⟩
      by_cases hneg : 2 * n - k < 0
      · rw [if_pos hneg] at hlf2
        have e := Lib.hid hlf2.symm
        clear hlf2 hd hlf
        go_wp2_with fail
        go_ret
        exact ⟨_, rfl, by rw [e.out]; rfl, H.bare⟩
      · rw [if_neg hneg] at hlf2
        have e := Lib.hid hlf2
        have hp : Hid (2 * n - k ≤ ((2 ^ (j + 1) : Nat) : Int)) := Lib.hid (by
          have := hn2.out
          rw [Nat.pow_succ]
          omega)
        clear hlf2 hd hlf hn2
        go_wp2_with fail
        go_roundw
        case rel => exact ⟨j + 1, 2 * n - k, by go_num, by omega, by go_num, by omega, hp, e, H⟩
        case measure => simp [intOf]; omega
    · obtain rfl : j = 15 := by omega
      have e : Hid (n = Z) := Lib.hid (by
        have := hlf.out
        rw [List.drop_eq_nil_of_le (by omega)] at this
        exact this)
      clear hlf
      go_wp2_with fail
      go_ret
      exact ⟨_, rfl, by rw [← e.out]; rfl, H.bare⟩
end Go.Proofs.Ytfeamlbkogigkaa
