/-
  Bits: the walk of BitsTakes.
-/
import Derived.Test.YtbooacglmeoceaaBitsRR
namespace Go.Proofs.Ytbooacglmeoceaa
open Go.RowKit

/-- What a taking answers, and how many bits are taken then. -/
def tkOk (s : ByteArray) (n : Nat) (m : Int) : Prop := 0 ≤ m ∧ m ≤ 62 ∧ m ≤ 8 * (s.size : Int) - n
instance (s : ByteArray) (n : Nat) (m : Int) : Decidable (tkOk s n m) := by unfold tkOk; infer_instance
def tkV (s : ByteArray) (n : Nat) (m : Int) : Int := if tkOk s n m then valOf (((textBits s).drop n).take m.toNat) else 0
def tkN (s : ByteArray) (n : Nat) (m : Int) : Nat := if tkOk s n m then n + m.toNat else n
def txOk (s : ByteArray) (n : Nat) (m : Int) : Prop := 0 ≤ m ∧ m ≤ (s.size : Int) - nbytes n
instance (s : ByteArray) (n : Nat) (m : Int) : Decidable (txOk s n m) := by unfold txOk; infer_instance
def txV (s : ByteArray) (n : Nat) (m : Int) : ByteArray := if txOk s n m then s.extract (nbytes n) (nbytes n + m.toNat) else ByteArray.empty
def txN (s : ByteArray) (n : Nat) (m : Int) : Nat := if txOk s n m then 8 * (nbytes n + m.toNat) else n
theorem tkN_le {s : ByteArray} {n : Nat} {m : Int} (h : n ≤ 8 * s.size) : tkN s n m ≤ 8 * s.size := by
  unfold tkN
  split
  · next h2 => unfold tkOk at h2; omega
  · exact h
theorem txN_le {s : ByteArray} {n : Nat} {m : Int} (h : n ≤ 8 * s.size) : txN s n m ≤ 8 * s.size := by
  unfold txN
  split
  · next h2 => unfold txOk at h2; omega
  · exact h

theorem take_any {w0 w : World} {ps : List Piece} {g : Nat} {s : ByteArray} {n : Nat} (m : Int) (hm : -9223372036854775808 ≤ m ∧ m ≤ 9223372036854775807) (H : Own w0 w (Rdr g s n :: ps)) (hs : s.size ≤ 1000000) (hn : n ≤ 8 * s.size) :
    Calls Try.prog 15 #[.pointer (some ⟨g, 0, none⟩), .int .i64 m] w (Ret fun v w' => v = .tuple #[.int .i64 (tkV s n m), .bool (decide (tkOk s n m))] ∧ Own w0 w' (Rdr g s (tkN s n m) :: ps)) := by
  by_cases h : tkOk s n m
  · have h' := h
    unfold tkOk at h'
    obtain ⟨k, rfl⟩ : ∃ k : Nat, m = k := ⟨m.toNat, by omega⟩
    have := take_yes k H (by omega) (by omega) (by omega)
    simpa [tkV, tkN, h] using this
  · have h' := h
    unfold tkOk at h'
    have := take_no m hm.1 hm.2 H (by omega) (by omega) (by omega)
    simpa [tkV, tkN, h] using this
theorem rtake_any {w0 w : World} {ps : List Piece} {g : Nat} {s : ByteArray} {n : Nat} (m : Int) (hm : -9223372036854775808 ≤ m ∧ m ≤ 9223372036854775807) (H : Own w0 w (RRdr g s n :: ps)) (hs : s.size ≤ 1000000) (hn : n ≤ 8 * s.size) :
    Calls Try.prog 16 #[.pointer (some ⟨g, 0, none⟩), .int .i64 m] w (Ret fun v w' => v = .tuple #[.int .i64 (tkV s n m), .bool (decide (tkOk s n m))] ∧ Own w0 w' (RRdr g s (tkN s n m) :: ps)) := by
  by_cases h : tkOk s n m
  · have h' := h
    unfold tkOk at h'
    obtain ⟨k, rfl⟩ : ∃ k : Nat, m = k := ⟨m.toNat, by omega⟩
    have := rtake_yes k H (by omega) (by omega) (by omega)
    simpa [tkV, tkN, h] using this
  · have h' := h
    unfold tkOk at h'
    have := rtake_no m hm.1 hm.2 H (by omega) (by omega) (by omega)
    simpa [tkV, tkN, h] using this
theorem rdtext_any {w0 w : World} {ps : List Piece} {g : Nat} {s : ByteArray} {n : Nat} (m : Int) (hm : -9223372036854775808 ≤ m ∧ m ≤ 9223372036854775807) (H : Own w0 w (Rdr g s n :: ps)) (hs : s.size ≤ 1000000) (hn : n ≤ 8 * s.size) :
    Calls Try.prog 19 #[.pointer (some ⟨g, 0, none⟩), .int .i64 m] w (Ret fun v w' => v = .tuple #[.string (txV s n m), .bool (decide (txOk s n m))] ∧ Own w0 w' (Rdr g s (txN s n m) :: ps)) := by
  by_cases h : txOk s n m
  · have h' := h
    unfold txOk at h'
    obtain ⟨k, rfl⟩ : ∃ k : Nat, m = k := ⟨m.toNat, by omega⟩
    have := rdtext_yes k H (by omega) (by omega)
    simpa [txV, txN, h] using this
  · have h' := h
    unfold txOk at h'
    have := rdtext_no m hm.1 hm.2 H (by omega) (by omega) (by omega)
    simpa [txV, txN, h] using this
theorem rrtext_any {w0 w : World} {ps : List Piece} {g : Nat} {s : ByteArray} {n : Nat} (m : Int) (hm : -9223372036854775808 ≤ m ∧ m ≤ 9223372036854775807) (H : Own w0 w (RRdr g s n :: ps)) (hs : s.size ≤ 1000000) (hn : n ≤ 8 * s.size) :
    Calls Try.prog 20 #[.pointer (some ⟨g, 0, none⟩), .int .i64 m] w (Ret fun v w' => v = .tuple #[.string (txV s n m), .bool (decide (txOk s n m))] ∧ Own w0 w' (RRdr g s (txN s n m) :: ps)) := by
  by_cases h : txOk s n m
  · have h' := h
    unfold txOk at h'
    obtain ⟨k, rfl⟩ : ∃ k : Nat, m = k := ⟨m.toNat, by omega⟩
    have := rrtext_yes k H (by omega) (by omega)
    simpa [txV, txN, h] using this
  · have h' := h
    unfold txOk at h'
    have := rrtext_no m hm.1 hm.2 H (by omega) (by omega) (by omega)
    simpa [txV, txN, h] using this

def acells (ds : List (Int × Int)) : List Value := ds.flatMap fun d => [.int .i64 d.1, .int .i64 d.2]
theorem acells_length (ds : List (Int × Int)) : (acells ds).length = ds.length * 2 := by
  unfold acells
  induction ds with
  | nil => rfl
  | cons x ds ih => simp only [List.flatMap_cons, List.length_append, ih, List.length_cons, List.length_nil]; omega
theorem acells_get (ds : List (Int × Int)) : ∀ k d, ds[k]? = some d → (acells ds)[k * 2]? = some (.int .i64 d.1) ∧ (acells ds)[k * 2 + 1]? = some (.int .i64 d.2) := by
  unfold acells
  induction ds with
  | nil => intro k d h; simp at h
  | cons x ds ih =>
    intro k d h
    cases k with
    | zero => simp at h; subst h; simp
    | succ k =>
      have := ih k d (by simpa using h)
      have e : ∀ j, (([.int .i64 x.1, .int .i64 x.2] : List Value) ++ List.flatMap (fun d : Int × Int => [.int .i64 d.1, .int .i64 d.2]) ds)[(k + 1) * 2 + j]? = (List.flatMap (fun d : Int × Int => [Value.int .i64 d.1, .int .i64 d.2]) ds)[k * 2 + j]? := by
        intro j
        rw [List.getElem?_append_right (by simp; omega)]
        congr 1
        simp; omega
      simp only [List.flatMap_cons]
      exact ⟨(e 0).trans this.1, (e 1).trans this.2⟩
theorem ask_at {w : World} {v : Value} {n : Nat} {ds : List (Int × Int)} (hr : Rd w 2 v n (acells ds)) {k : Nat} {d : Int × Int} (hd : ds[k]? = some d) :
    ∃ b o c, v = .slice (some ⟨b, o, none⟩) n c ∧ w.cell? ⟨b, o + k * 2, none⟩ = some (.int .i64 d.1) ∧ w.cell? ⟨b, o + k * 2 + 1, none⟩ = some (.int .i64 d.2) := by
  have hk := (List.getElem?_eq_some_iff.1 hd).1
  obtain ⟨b, o, c, e, _, _, hc⟩ := hr.at (by rw [acells_length]; omega)
  obtain ⟨g0, g1⟩ := acells_get ds k d hd
  have c1 := hc _ _ g1
  rw [← Nat.add_assoc] at c1
  exact ⟨b, o, c, e, hc _ _ g0, c1⟩

set_option maxRecDepth 100000 in
set_option maxHeartbeats 2000000 in
theorem takes_any (s : ByteArray) (v : Value) (n0 : Nat) (ds : List (Int × Int)) (hds : ∀ d ∈ ds, -9223372036854775808 ≤ d.2 ∧ d.2 ≤ 9223372036854775807) (w : World) (hr : Rd w 2 v n0 (acells ds)) :
    Calls Try.prog 4 #[.string s, v] w (Ret fun v w' => v = .bool true ∧ Own w w' []) := by
  have hlen : Hid (n0 = ds.length) := by have := hr.len; rw [acells_length] at this; exact Lib.hid (by omega)
  have HR := Lib.hid hr
  obtain ⟨a0, cap, rfl, hn1, hn2⟩ := hr.shape
  clear hr
  go_enter Try.func4, Try.ntmps4
  go_upto_if 18 with (fail)
  go_cut [0] (fun s0 wx => wx = w ∧ ∃ t : ByteArray, s0 = .string t ∧ t.size ≤ 1000)
  case first =>
    by_cases hb : s.size > 1000
    · have hb2 : (1000 : Int) < (s.size : Int) := by omega
      have hb3 : (1000 : Int) ≤ (s.size : Int) := by omega
      go_wp2
      go_meet
      exact ⟨rfl, _, rfl, by simp [ByteArray.size_extract]; omega⟩
    · have hb2 : (s.size : Int) ≤ 1000 := by omega
      go_wp2
      go_meet
      exact ⟨rfl, _, rfl, by omega⟩
  case rest =>
    obtain ⟨rfl, t, rfl, ht⟩ := hcut
    obtain ⟨w0, hw0⟩ : ∃ x, x = wc := ⟨_, rfl⟩
    subst hw0
    go_wp2_with fail
    refine (new_any t (Own.start w0)).mono ?_
    rintro e w1 ⟨_, rfl, ga, rfl, H1⟩
    go_upto_region 4 with (fail)
    have H := (H1.alloc (.cells #[.string t, .int .i64 0] 45)).swap
    obtain ⟨gb, hgb⟩ : ∃ g, w1.heap.size = g := ⟨_, rfl⟩
    rw [hgb] at H
    simp only [hgb]
    generalize World.alloc w1 _ = w2 at *
    clear hgb H1
    go_wp2_with fail
    go_loopw [7] (fun i wx => ∃ k n : Nat, k ≤ n0 ∧ k ≤ 60 ∧ i = .int .i64 k ∧ n ≤ 8 * t.size ∧ Own w0 wx [Rdr ga t n, RRdr gb t n]) (fun i _ => 60 - (intOf i).toNat)
    case atStart => exact ⟨0, 0, Nat.zero_le _, Nat.zero_le _, rfl, Nat.zero_le _, H⟩
    case round =>
      clear H
      obtain ⟨k, n, hk, hk6, rfl, hn8, H⟩ := hrel
      by_cases hlt : k < n0 ∧ k < 60
      · obtain ⟨hlt, hl6⟩ := hlt
        obtain ⟨d, hd⟩ : ∃ d, Hid (ds[k]? = some d) := ⟨ds[k]'(by have := hlen.out; omega), Lib.hid (List.getElem?_eq_getElem _)⟩
        have hdb := hds d (List.mem_of_getElem? hd.out)
        obtain ⟨b, o, _, e, c0, c1⟩ := ask_at (HR.out.old H) hd.out
        cases e
        obtain ⟨dk, m⟩ := d
        simp only at c0 c1 hdb
        go_upto_block 2 with (fail)
        go_cut [] (fun wx => ∃ n2 : Nat, n2 ≤ 8 * t.size ∧ Own w0 wx [Rdr ga t n2, RRdr gb t n2])
        case first =>
          by_cases hq : dk = 0 ∨ dk = 1
          · rcases hq with rfl | rfl
            all_goals
              go_wp2_with fail
              refine (take_any m hdb H (by omega) hn8).mono ?_
              rintro e w3 ⟨_, rfl, rfl, H3⟩
              clear c0 c1
              obtain ⟨_, _, _, e, c0, c1⟩ := ask_at (HR.out.old H3) hd.out
              cases e
              simp only at c0 c1
              go_wp2_with fail
              refine (rtake_any m hdb H3.swap (by omega) hn8).mono ?_
              rintro e w4 ⟨_, rfl, rfl, H4⟩
              go_wp2
              go_meet
              exact ⟨_, tkN_le hn8, H4.swap⟩
          · have e0 : (dk == 0) = false := by simp; omega
            have e1 : (dk == 1) = false := by simp; omega
            by_cases hq2 : dk = 2
            · subst hq2
              go_wp2_with fail
              refine (rdalign_any H (by omega)).mono ?_
              rintro e w3 ⟨_, rfl, H3⟩
              go_wp2_with fail
              refine (rralign_any H3.swap (by omega)).mono ?_
              rintro e w4 ⟨_, rfl, H4⟩
              go_wp2
              go_meet
              exact ⟨_, by unfold nbytes; omega, H4.swap⟩
            · have e2 : (dk == 2) = false := by simp; omega
              go_wp2_with fail
              refine (rdtext_any m hdb H (by omega) hn8).mono ?_
              rintro e w3 ⟨_, rfl, rfl, H3⟩
              clear c0 c1
              obtain ⟨_, _, _, e, c0, c1⟩ := ask_at (HR.out.old H3) hd.out
              cases e
              simp only at c0 c1
              go_wp2_with fail
              refine (rrtext_any m hdb H3.swap (by omega) hn8).mono ?_
              rintro e w4 ⟨_, rfl, rfl, H4⟩
              go_wp2
              go_meet
              exact ⟨_, txN_le hn8, H4.swap⟩
        case rest =>
          clear H c0 c1
          obtain ⟨n2, hn2b, H⟩ := hcut
          go_upto_region 21 with (fail)
          refine wp_region_calm (fun w1 => Own w0 w1 [Rdr ga t n2, RRdr gb t n2]) 14 (by kernel_rfl) (by kernel_rfl) H.drew ?_
          simp only [List.take_succ_cons, List.take_zero, List.drop_succ_cons, List.drop_zero]
          refine calm_value (v := ?_) (by decide) rfl (fun σ w1 hS => ?_) ?_; rotate_left
          · have c0 := hS.swap.cells
            go_simp
            rfl
          simp only [Act.put, List.setIfInBounds_toArray, List.set_cons_zero, List.set_cons_succ]
          refine calm_call (v := .int .i64 (8 * (t.size : Int) - n2)) (by decide) rfl (fun w1 => (by go_simp; exact ⟨rfl, rfl⟩)) (fun σ w1 hS => ?_) ?_
          · refine (left_any hS (by omega) (by omega)).mono ?_
            rintro e w2 ⟨rfl, h2⟩
            exact ⟨rfl, h2⟩
          simp only [Act.put, List.setIfInBounds_toArray, List.set_cons_zero, List.set_cons_succ]
          refine calm_value (v := ?_) (by decide) rfl (fun σ w1 hS => ?_) ?_; rotate_left
          · have c0 := hS.swap.cells
            go_simp
            rfl
          simp only [Act.put, List.setIfInBounds_toArray, List.set_cons_zero, List.set_cons_succ]
          refine calm_call (v := .int .i64 (8 * (t.size : Int) - n2)) (by decide) rfl (fun w1 => (by go_simp; exact ⟨rfl, rfl⟩)) (fun σ w1 hS => ?_) ?_
          · refine (rleft_any hS.swap (by omega) (by omega)).mono ?_
            rintro e w2 ⟨rfl, h2⟩
            exact ⟨rfl, h2.swap⟩
          simp only [Act.put, List.setIfInBounds_toArray, List.set_cons_zero, List.set_cons_succ]
          refine calm_value (v := ?_) (by decide) rfl (fun σ w1 hS => ?_) ?_; rotate_left
          · have c0 := hS.swap.cells
            go_simp
            rfl
          simp only [Act.put, List.setIfInBounds_toArray, List.set_cons_zero, List.set_cons_succ]
          refine calm_value (v := ?_) (by decide) rfl (fun σ w1 hS => ?_) ?_; rotate_left
          · have c0 := hS.swap.cells
            go_simp
            rfl
          simp only [Act.put, List.setIfInBounds_toArray, List.set_cons_zero, List.set_cons_succ]
          refine calm_value (v := ?_) (by decide) rfl (fun σ w1 hS => ?_) ?_; rotate_left
          · have c0 := hS.swap.cells
            go_simp
            rfl
          simp only [Act.put, List.setIfInBounds_toArray, List.set_cons_zero, List.set_cons_succ]
          refine calm_call (v := .int .i64 n2) (by decide) rfl (fun w1 => (by go_simp; exact ⟨rfl, rfl⟩)) (fun σ w1 hS => ?_) ?_
          · refine (used_any hS).mono ?_
            rintro e _ ⟨rfl, rfl⟩
            exact ⟨rfl, hS⟩
          simp only [Act.put, List.setIfInBounds_toArray, List.set_cons_zero, List.set_cons_succ]
          refine calm_value (v := ?_) (by decide) rfl (fun σ w1 hS => ?_) ?_; rotate_left
          · have c0 := hS.swap.cells
            go_simp
            rfl
          simp only [Act.put, List.setIfInBounds_toArray, List.set_cons_zero, List.set_cons_succ]
          refine calm_value (v := ?_) (by decide) rfl (fun σ w1 hS => ?_) ?_; rotate_left
          · have c0 := hS.swap.cells
            go_simp
            rfl
          simp only [Act.put, List.setIfInBounds_toArray, List.set_cons_zero, List.set_cons_succ]
          refine calm_value (v := ?_) (by decide) rfl (fun σ w1 hS => ?_) ?_; rotate_left
          · have c0 := hS.swap.cells
            go_simp
            rfl
          simp only [Act.put, List.setIfInBounds_toArray, List.set_cons_zero, List.set_cons_succ]
          refine calm_value (v := ?_) (by decide) rfl (fun σ w1 hS => ?_) ?_; rotate_left
          · have c0 := hS.swap.cells
            go_simp
            rfl
          simp only [Act.put, List.setIfInBounds_toArray, List.set_cons_zero, List.set_cons_succ]
          refine calm_value (v := ?_) (by decide) rfl (fun σ w1 hS => ?_) ?_; rotate_left
          · have c0 := hS.swap.cells
            go_simp
            rfl
          simp only [Act.put, List.setIfInBounds_toArray, List.set_cons_zero, List.set_cons_succ]
          refine calm_value (v := ?_) (by decide) rfl (fun σ w1 hS => ?_) ?_; rotate_left
          · have c0 := hS.swap.cells
            go_simp
            rfl
          simp only [Act.put, List.setIfInBounds_toArray, List.set_cons_zero, List.set_cons_succ]
          refine calm_nil ?_
          intro wd HD
          clear H
          go_wp2
          go_round
          case rel => exact ⟨k + 1, n2, by omega, by omega, by go_num, hn2b, HD⟩
          case measure => simp [intOf]; omega
      · go_wp2_with fail
        all_goals
          refine (left_any H (by omega) (by omega)).mono ?_
          rintro e w3 ⟨rfl, H3⟩
          go_wp2_with fail
          refine (rleft_any H3.swap (by omega) (by omega)).mono ?_
          rintro e w4 ⟨rfl, H4⟩
          go_wp2_with fail
          refine (awake_any _).mono ?_
          rintro e w5 ⟨_, rfl, rfl, H5⟩
          go_wp2
          go_ret
          exact ⟨_, rfl, rfl, (H4.join H5).bare⟩
end Go.Proofs.Ytbooacglmeoceaa
