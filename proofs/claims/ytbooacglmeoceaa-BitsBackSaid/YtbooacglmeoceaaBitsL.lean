/-
  Bits: the walks of the law's own small functions: does, did, awake, some.
-/
import Derived.Test.YtbooacglmeoceaaBitsRB
namespace Go.Proofs.Ytbooacglmeoceaa
open Go.RowKit

structure Dd where
  k : Int
  v : Int
  n : Int
  s : ByteArray
def Dd.cells (d : Dd) : List Value := [.int .i64 d.k, .int .i64 d.v, .int .i64 d.n, .string d.s]
def ddcells (ds : List Dd) : List Value := ds.flatMap Dd.cells
theorem ddcells_length (ds : List Dd) : (ddcells ds).length = ds.length * 4 := by
  unfold ddcells
  induction ds with
  | nil => rfl
  | cons x ds ih => simp only [List.flatMap_cons, List.length_append, ih, List.length_cons]; simp [Dd.cells]; omega
theorem ddcells_get (ds : List Dd) : ∀ k d, ds[k]? = some d → (ddcells ds)[k * 4]? = some (.int .i64 d.k) ∧ (ddcells ds)[k * 4 + 1]? = some (.int .i64 d.v) ∧ (ddcells ds)[k * 4 + 2]? = some (.int .i64 d.n) ∧ (ddcells ds)[k * 4 + 3]? = some (.string d.s) := by
  unfold ddcells
  induction ds with
  | nil => intro k d h; simp at h
  | cons x ds ih =>
    intro k d h
    cases k with
    | zero => simp at h; subst h; simp [Dd.cells]
    | succ k =>
      have := ih k d (by simpa using h)
      have e : ∀ j, (Dd.cells x ++ List.flatMap Dd.cells ds)[(k + 1) * 4 + j]? = (List.flatMap Dd.cells ds)[k * 4 + j]? := by
        intro j
        rw [List.getElem?_append_right (by simp [Dd.cells]; omega)]
        congr 1
        simp [Dd.cells]; omega
      simp only [List.flatMap_cons]
      exact ⟨(e 0).trans this.1, (e 1).trans this.2.1, (e 2).trans this.2.2.1, (e 3).trans this.2.2.2⟩
def I64 (x : Int) : Prop := -9223372036854775808 ≤ x ∧ x ≤ 9223372036854775807
structure Dd.Ok (d : Dd) : Prop where
  k : I64 d.k
  v : I64 d.v
  n : I64 d.n
  s : d.s.size ≤ 100
def Dd.val (d : Dd) : Value := .agg #[.int .i64 d.k, .int .i64 d.v, .int .i64 d.n, .string d.s]
/-- What a deed does. -/
def Dd.put (d : Dd) (bs : List Bool) : List Bool :=
  if d.k = 0 ∨ d.k = 1 then bs ++ bitsOf d.v (cut d.n) else if d.k = 2 then bs ++ (bitsOf d.v (cut d.n)).reverse else if d.k = 3 then aligned bs else aligned bs ++ textBits d.s
theorem cut_le (n : Int) : cut n ≤ 62 := by unfold cut; omega
theorem Dd.put_length (d : Dd) (hd : d.Ok) (bs : List Bool) : (d.put bs).length ≤ bs.length + 900 := by
  have := cut_le d.n
  have := hd.s
  have h1 := aligned_length bs
  unfold nbytes at h1
  unfold Dd.put
  repeat' split
  all_goals simp [bitsOf_length, textBits_length]
  all_goals omega

set_option maxHeartbeats 400000 in
theorem does_any {w0 w : World} {ps : List Piece} {g : Nat} {bs : List Bool} (d : Dd) (hd : d.Ok) (H : Own w0 w (Wtr g bs :: ps)) (hl : bs.length ≤ 100000) :
    Calls Try.prog 8 #[.pointer (some ⟨g, 0, none⟩), d.val] w (Ret fun _ w' => Own w0 w' (Wtr g (d.put bs) :: ps)) := by
  obtain ⟨k, v, n, s⟩ := d
  obtain ⟨hk, hv, hn, hs⟩ := hd
  simp only at hk hv hn hs
  unfold Dd.val
  go_enter Try.func8, Try.ntmps8
  have H2 := (H.alloc (.cells #[.int .i64 k, .int .i64 v, .int .i64 n, .string s] 34)).drop
  clear H
  obtain ⟨hk1, hk2⟩ := hk
  by_cases h0 : k = 0
  · subst h0
    go_wp2_with fail
    refine (put_any v n hv hn H2 (by omega)).mono ?_
    rintro e w2 ⟨_, rfl, H3⟩
    go_wp2
    go_end0
    exact ⟨_, rfl, H3⟩
  by_cases h1 : k = 1
  · subst h1
    go_wp2_with fail
    refine (put_any v n hv hn H2 (by omega)).mono ?_
    rintro e w2 ⟨_, rfl, H3⟩
    go_wp2
    go_end0
    exact ⟨_, rfl, H3⟩
  have e0 : (k == 0) = false := by simpa using h0
  have e1 : (k == 1) = false := by simpa using h1
  by_cases h2 : k = 2
  · subst h2
    go_wp2_with fail
    refine (code_any v n hv hn H2 (by omega)).mono ?_
    rintro e w2 ⟨_, rfl, H3⟩
    go_wp2
    go_end0
    exact ⟨_, rfl, H3⟩
  have e2 : (k == 2) = false := by simpa using h2
  by_cases h3 : k = 3
  · subst h3
    go_wp2_with fail
    refine (align_any H2 (by omega)).mono ?_
    rintro e w2 ⟨_, rfl, H3⟩
    go_wp2
    go_end0
    exact ⟨_, rfl, H3⟩
  have e3 : (k == 3) = false := by simpa using h3
  go_wp2_with fail
  refine (text_any s H2 (by omega)).mono ?_
  rintro e w2 ⟨_, rfl, H3⟩
  go_wp2
  go_end0
  refine ⟨_, rfl, ?_⟩
  rw [show (Dd.mk k v n s).put bs = aligned bs ++ textBits s by unfold Dd.put; rw [if_neg (by simp [h0, h1]), if_neg (by simpa using h2), if_neg (by simpa using h3)]]
  exact H3

set_option maxHeartbeats 400000 in
theorem did_any {w0 w : World} {ps : List Piece} {g : Nat} {bs : List Bool} (d : Dd) (hd : d.Ok) (H : Own w0 w (RWtr g bs :: ps)) (hl : bs.length ≤ 100000) :
    Calls Try.prog 9 #[.pointer (some ⟨g, 0, none⟩), d.val] w (Ret fun _ w' => Own w0 w' (RWtr g (d.put bs) :: ps)) := by
  obtain ⟨k, v, n, s⟩ := d
  obtain ⟨hk, hv, hn, hs⟩ := hd
  simp only at hk hv hn hs
  unfold Dd.val
  go_enter Try.func9, Try.ntmps9
  have H2 := (H.alloc (.cells #[.int .i64 k, .int .i64 v, .int .i64 n, .string s] 34)).drop
  clear H
  obtain ⟨hk1, hk2⟩ := hk
  by_cases h0 : k = 0
  · subst h0
    go_wp2_with fail
    refine (rput_any v n hv H2 (by omega)).mono ?_
    rintro e w2 ⟨_, rfl, H3⟩
    go_wp2
    go_end0
    exact ⟨_, rfl, H3⟩
  by_cases h1 : k = 1
  · subst h1
    go_wp2_with fail
    refine (rput_any v n hv H2 (by omega)).mono ?_
    rintro e w2 ⟨_, rfl, H3⟩
    go_wp2
    go_end0
    exact ⟨_, rfl, H3⟩
  have e0 : (k == 0) = false := by simpa using h0
  have e1 : (k == 1) = false := by simpa using h1
  by_cases h2 : k = 2
  · subst h2
    go_wp2_with fail
    refine (rcode_any v n hv H2 (by omega)).mono ?_
    rintro e w2 ⟨_, rfl, H3⟩
    go_wp2
    go_end0
    exact ⟨_, rfl, H3⟩
  have e2 : (k == 2) = false := by simpa using h2
  by_cases h3 : k = 3
  · subst h3
    go_wp2_with fail
    refine (ralign_any H2 (by omega)).mono ?_
    rintro e w2 ⟨_, rfl, H3⟩
    go_wp2
    go_end0
    exact ⟨_, rfl, H3⟩
  have e3 : (k == 3) = false := by simpa using h3
  go_wp2_with fail
  refine (rtext_any s (by omega) H2 (by omega)).mono ?_
  rintro e w2 ⟨_, rfl, H3⟩
  go_wp2
  go_end0
  refine ⟨_, rfl, ?_⟩
  rw [show (Dd.mk k v n s).put bs = aligned bs ++ textBits s by unfold Dd.put; rw [if_neg (by simp [h0, h1]), if_neg (by simpa using h2), if_neg (by simpa using h3)]]
  exact H3

theorem text13 : textOf ((([] : List Bool) ++ bitsOf 5 (cut 3)) ++ bitsOf 1 (cut 2)) = ⟨#[13]⟩ := by decide +kernel
theorem text3 : textOf (([] : List Bool) ++ (bitsOf 6 (cut 3)).reverse) = ⟨#[3]⟩ := by decide +kernel

theorem alloc_heap_size' (w : World) (o : Obj) : (w.alloc o).heap.size = w.heap.size + 1 := Array.size_push ..
/-- A new writer. -/
theorem Own.newWtr {w0 w : World} {ps : List Piece} (H : Own w0 w ps) : Own w0 (w.alloc (.cells #[.slice none 0 0, .int .i64 0] 25)) (Wtr w.heap.size [] :: ps) := by
  have h := (H.alloc (.cells #[.slice none 0 0, .int .i64 0] 25)).nil 5 1
  exact Own.unwtr (n := 0) h.swap rfl rfl rfl
theorem Own.newRWtr {w0 w : World} {ps : List Piece} (H : Own w0 w ps) : Own w0 (w.alloc (.cells #[.slice none 0 0] 29)) (RWtr w.heap.size [] :: ps) := by
  have h := (H.alloc (.cells #[.slice none 0 0] 29)).nil 3 1
  exact Own.unrwtr h.swap rfl rfl

set_option maxHeartbeats 400000 in
theorem awake_any (w : World) : Calls Try.prog 13 #[] w (Ret fun v w' => v = .bool true ∧ Own w w' []) := by
  go_enter Try.func13, Try.ntmps13
  go_wp2_with fail
  have H := ((Own.start w).newWtr).newWtr
  rw [alloc_heap_size'] at H
  refine (put_any 5 3 ⟨by decide, by decide⟩ ⟨by decide, by decide⟩ H.swap (by simp)).mono ?_
  rintro e w1 ⟨_, rfl, H1⟩
  go_wp2_with fail
  refine (put_any 1 2 ⟨by decide, by decide⟩ ⟨by decide, by decide⟩ H1 (by simp [bitsOf_length]; decide)).mono ?_
  rintro e w2 ⟨_, rfl, H2⟩
  go_wp2_with fail
  refine (code_any 6 3 ⟨by decide, by decide⟩ ⟨by decide, by decide⟩ H2.swap (by simp)).mono ?_
  rintro e w3 ⟨_, rfl, H3⟩
  go_wp2_with fail
  refine (bytes_any H3.swap).mono ?_
  rintro e _ ⟨rfl, rfl⟩
  rw [text13]
  go_wp2_with fail
  refine (bytes_any H3).mono ?_
  rintro e _ ⟨rfl, rfl⟩
  rw [text3]
  go_wp2_with fail
  refine (len_any H3.swap).mono ?_
  rintro e _ ⟨rfl, rfl⟩
  simp only [List.nil_append, List.length_append, bitsOf_length, show cut 3 = 3 from rfl, show cut 2 = 2 from rfl]
  go_wp2
  go_ret
  exact ⟨_, rfl, rfl, H3.bare⟩
end Go.Proofs.Ytbooacglmeoceaa
