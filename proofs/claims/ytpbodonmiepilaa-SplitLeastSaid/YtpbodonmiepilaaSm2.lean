/-
  Texts of this claim, one behind the other: huff; huff; huff; append of a string's bytes to a slice of the call's own; bytes made a string. No program in sight; Bits; huff; Laws on int's bit operations. No program in sight; Laws on int's bit operations, more. No program in sight; huff; huff; flate; lz; lz; lz; inflate; What an int, a byte, a string are to the program; Bits; Bits; bits, a reader; lz; flate; flate; inflate; inflate; inflate; inflate; flate; flate; lz; inflate; flate; inflate; inflate; inflate; An array of ints by value, read at an index; flate; huff; huff; Bits; Bits; flate.
-/
import Derived.Test.YtpbodonmiepilaaSm1
import Derived.Lib.AppendStr
import Derived.Deep.AppendSrc
import Derived.Laws.BytesArg
import Derived.WalkKit
import Derived.Test.YtpbodonmiepilaaRows
import Derived.WalkSpells
import Derived.WalkLawsBesides
import Derived.BigQuiet
import Derived.Deep.DeepCutAuto
import Derived.Deep.CutBlock
import Derived.Deep.LoopGhost
import Derived.Deep.QuietTactic
import Derived.KernelRfl
import Derived.OwnWalk
import Derived.Laws.ResultCell
import Derived.Deep.OwnRows
set_option linter.unusedVariables false
/- huff: lengths of frequencies, plainly. No program in sight. -/
namespace Go.Proofs.Ytpbodonmiepilaa

/-- A symbol's frequency. -/
def frq (F : List Int) (x : Int) : Int := F.getD x.toNat 0
/-- The symbols in use, of the first k. -/
def usedN (F : List Int) : Nat → List Int
  | 0 => []
  | k + 1 => if 0 < F.getD k 0 then usedN F k ++ [(k : Int)] else usedN F k
def usedF (F : List Int) : List Int := usedN F F.length
def symsF (F : List Int) : List Int := sortF (frq F) (usedF F)
def coinOf (F : List Int) (s : Int) : Coin := ⟨frq F s, false⟩
def baseF (F : List Int) : List Coin := (symsF F).map (coinOf F)
def bump1 (o : List Int) (s : Int) : List Int := o.set s.toNat (o.getD s.toNat 0 + 1)
def bumpF (o : List Int) (l : List Int) : List Int := l.foldl bump1 o
def zerosF (n : Nat) : List Int := List.replicate n 0
def outF (syms : List Int) (cs : List Nat) (o : List Int) : List Int := cs.foldl (fun o c => bumpF o (syms.take c)) o
/-- The lengths. -/
def lengthsF (F : List Int) (L : Nat) : List Int :=
  if (symsF F).length < 2 then bumpF (zerosF F.length) (symsF F)
  else outF (symsF F) (cntF (baseF F) (L - 1) (2 * (symsF F).length - 2)) (zerosF F.length)

section
variable (F : List Int)
theorem usedN_mem (k : Nat) : ∀ x, x ∈ usedN F k ↔ ∃ s : Nat, x = s ∧ s < k ∧ 0 < F.getD s 0 := by
  induction k with
  | zero => intro x; simp [usedN]
  | succ k ih =>
    intro x
    rw [usedN]
    split
    · next h =>
      rw [List.mem_append, List.mem_singleton, ih]
      constructor
      · rintro (⟨s, rfl, h1, h2⟩ | rfl)
        · exact ⟨s, rfl, by omega, h2⟩
        · exact ⟨k, rfl, by omega, h⟩
      · rintro ⟨s, rfl, h1, h2⟩
        rcases Nat.lt_or_ge s k with h3 | h3
        · exact .inl ⟨s, rfl, h3, h2⟩
        · right; congr 1; omega
    · next h =>
      rw [ih]
      constructor
      · rintro ⟨s, rfl, h1, h2⟩
        exact ⟨s, rfl, by omega, h2⟩
      · rintro ⟨s, rfl, h1, h2⟩
        refine ⟨s, rfl, ?_, h2⟩
        rcases Nat.lt_or_ge s k with h3 | h3
        · exact h3
        · have : s = k := by omega
          subst this; exact absurd h2 h
theorem usedN_nodup (k : Nat) : (usedN F k).Nodup := by
  induction k with
  | zero => simp [usedN]
  | succ k ih =>
    rw [usedN]
    split
    · rw [List.nodup_append]
      refine ⟨ih, by simp, fun a ha b hb' => ?_⟩
      rw [usedN_mem] at ha
      obtain ⟨s, rfl, h1, _⟩ := ha
      rw [List.mem_singleton] at hb'
      subst hb'
      omega
    · exact ih
theorem usedN_length (k : Nat) : (usedN F k).length ≤ k := by
  induction k with
  | zero => simp [usedN]
  | succ k ih =>
    rw [usedN]
    split
    · rw [List.length_append]; simp; omega
    · omega
theorem syms_perm : (usedF F).Perm (symsF F) := (sortF_law _).2.perm
theorem syms_srt : Srt (frq F) (symsF F) := (sortF_law _).1
theorem syms_mem (x : Int) : x ∈ symsF F ↔ ∃ s : Nat, x = s ∧ s < F.length ∧ 0 < F.getD s 0 := by
  rw [← (syms_perm F).mem_iff]
  exact usedN_mem F _ x
theorem syms_nodup : (symsF F).Nodup := (syms_perm F).nodup_iff.1 (usedN_nodup F _)
theorem syms_length : (symsF F).length = (usedF F).length := (syms_perm F).length_eq.symm
theorem base_length : (baseF F).length = (symsF F).length := by unfold baseF; simp
theorem base_law : Base (baseF F) := by
  refine ⟨?_, ?_, ?_⟩
  · intro c hc
    obtain ⟨s, _, rfl⟩ := List.mem_map.1 hc
    rfl
  · exact List.pairwise_map.2 (syms_srt F)
  · intro c hc
    obtain ⟨s, hs, rfl⟩ := List.mem_map.1 hc
    obtain ⟨n, rfl, _, h⟩ := (syms_mem F s).1 hs
    show 1 ≤ F.getD (Int.toNat n) 0
    rw [Int.toNat_natCast]
    omega
end

/-! ### bumps -/
theorem bump1_length (o : List Int) (s : Int) : (bump1 o s).length = o.length := by simp [bump1]
theorem bumpF_length (l : List Int) : ∀ o, (bumpF o l).length = o.length := by
  induction l with
  | nil => intro _; rfl
  | cons s t ih => intro o; show (bumpF (bump1 o s) t).length = _; rw [ih, bump1_length]
theorem bump1_get (o : List Int) (s j : Nat) (hs : s < o.length) : (bump1 o s).getD j 0 = o.getD j 0 + if j = s then 1 else 0 := by
  unfold bump1
  simp only [List.getD_eq_getElem?_getD, Int.toNat_natCast]
  by_cases h : j = s
  · subst h
    rw [List.getElem?_set_self hs, if_pos rfl]
    rfl
  · rw [List.getElem?_set_ne (fun e => h e.symm), if_neg h, Int.add_zero]
theorem bumpF_get (l : List Int) : ∀ (o : List Int) (j : Nat), (∀ x ∈ l, ∃ s : Nat, x = s ∧ s < o.length) → (bumpF o l).getD j 0 = o.getD j 0 + (l.countP fun x => decide (x = (j : Int)) : Nat) := by
  induction l with
  | nil => intro o j _; simp [bumpF]
  | cons x t ih =>
    intro o j h
    obtain ⟨s, rfl, hs⟩ := h x (by simp)
    show (bumpF (bump1 o s) t).getD j 0 = _
    rw [ih _ j (fun x hx => by rw [bump1_length]; exact h x (by simp [hx])), bump1_get o s j hs, List.countP_cons]
    by_cases hj : j = s
    · subst hj; simp; omega
    · have : ¬ ((s : Int) = j) := by omega
      simp [hj, this]
theorem count_nodup {l : List Int} (h : l.Nodup) (x : Int) : (l.countP fun y => decide (y = x)) = if x ∈ l then 1 else 0 := by
  induction l with
  | nil => simp
  | cons a t ih =>
    rw [List.nodup_cons] at h
    rw [List.countP_cons, ih h.2]
    by_cases ha : a = x
    · subst ha
      simp [h.1]
    · have : ¬ x = a := fun e => ha e.symm
      simp [ha, this]

/-- The lengths, and the lengths by place. -/
structure OutRel (F o : List Int) (ls : List Nat) : Prop where
  len : o.length = F.length
  lsl : ls.length = (symsF F).length
  get : ∀ k (h : k < (symsF F).length), o.getD ((symsF F)[k]).toNat 0 = ls.getD k 0
  zero : ∀ j : Nat, (j : Int) ∉ symsF F → o.getD j 0 = 0
theorem out_start (F : List Int) : OutRel F (zerosF F.length) (List.replicate (symsF F).length 0) := by
  have hz : ∀ j, (zerosF F.length).getD j 0 = 0 := by
    intro j
    unfold zerosF
    rw [List.getD_eq_getElem?_getD, List.getElem?_replicate]
    split <;> rfl
  exact ⟨by simp [zerosF], by simp, fun k _ => by rw [hz, rep_zero]; rfl, fun j _ => hz j⟩
theorem nodup_idx {l : List Int} (h : l.Nodup) {i j : Nat} (hi : i < l.length) (hj : j < l.length) (e : l[i] = l[j]) : i = j := by
  rcases Nat.lt_trichotomy i j with h1 | h1 | h1
  · exact absurd e (List.pairwise_iff_getElem.1 h i j hi hj h1)
  · exact h1
  · exact absurd e.symm (List.pairwise_iff_getElem.1 h j i hj hi h1)
theorem out_bump {F o : List Int} {ls : List Nat} (h : OutRel F o ls) (c : Nat) : OutRel F (bumpF o ((symsF F).take c)) (addF c ls) := by
  have hin : ∀ x ∈ (symsF F).take c, ∃ s : Nat, x = s ∧ s < o.length := fun x hx => by
    obtain ⟨s, rfl, h1, _⟩ := (syms_mem F x).1 (List.mem_of_mem_take hx)
    exact ⟨s, rfl, by rw [h.len]; exact h1⟩
  have hnd : ((symsF F).take c).Nodup := (syms_nodup F).sublist (List.take_sublist _ _)
  refine ⟨by rw [bumpF_length, h.len], by rw [addF_length, h.lsl], fun k hk => ?_, fun j hj => ?_⟩
  · rw [bumpF_get _ _ _ hin, h.get k hk, addF_get, count_nodup hnd]
    have hpos : (((symsF F)[k]).toNat : Int) = (symsF F)[k] := by
      obtain ⟨s, e, _⟩ := (syms_mem F ((symsF F)[k])).1 (List.getElem_mem _)
      rw [e]; rfl
    rw [hpos]
    by_cases hc : k < c
    · have h1 : k < c ∧ k < ls.length := ⟨hc, by rw [h.lsl]; exact hk⟩
      have h2 : (symsF F)[k] ∈ (symsF F).take c := List.mem_take_iff_getElem.2 ⟨k, by omega, rfl⟩
      rw [if_pos h1, if_pos h2]
      simp
    · have h1 : ¬ (k < c ∧ k < ls.length) := fun hh => hc hh.1
      have h2 : ¬ (symsF F)[k] ∈ (symsF F).take c := by
        intro hm
        obtain ⟨j, hj, e⟩ := List.mem_take_iff_getElem.1 hm
        have := nodup_idx (syms_nodup F) (by omega) hk e
        omega
      rw [if_neg h1, if_neg h2]
      simp
  · rw [bumpF_get _ _ _ hin, h.zero j hj, count_nodup hnd, if_neg (fun hm => hj (List.mem_of_mem_take hm))]
    simp
theorem out_fold {F : List Int} (cs : List Nat) : ∀ {o : List Int} {ls : List Nat}, OutRel F o ls → OutRel F (outF (symsF F) cs o) (lensF cs ls) := by
  induction cs with
  | nil => intro o ls h; exact h
  | cons c cs ih => intro o ls h; exact ih (out_bump h c)

/-! ### weights and costs, over symbols -/
def wtF (x : Int) : Int := if 0 < x then 2 ^ (15 - x.toNat) else 0
theorem sum_range (l : List Int) (f : Int → Int) : sumF f l = sumF (fun j : Nat => f (l.getD j 0)) (List.range l.length) := by
  have e : l = (List.range l.length).map (fun j => l.getD j 0) := by
    refine List.ext_getElem (by simp) fun i h1 h2 => ?_
    simp [List.getD_eq_getElem?_getD, h1]
  conv => lhs; rw [e]
  rw [sumF_map]
theorem used_range (F : List Int) (k : Nat) : usedN F k = ((List.range k).filter fun s => decide (0 < F.getD s 0)).map Int.ofNat := by
  induction k with
  | zero => rfl
  | succ k ih =>
    rw [usedN, List.range_succ, List.filter_append, List.map_append, ← ih]
    split
    · next h => simp only [List.filter_cons, List.filter_nil, h, decide_true, if_true]; rfl
    · next h => simp only [List.filter_cons, List.filter_nil, h, decide_false]; simp
/-- A sum over all symbols is one over those in use, if nothing else counts. -/
theorem sum_syms (F : List Int) (f : Nat → Int) (h : ∀ j, j < F.length → ¬ 0 < F.getD j 0 → f j = 0) : sumF f (List.range F.length) = sumF (fun x : Int => f x.toNat) (symsF F) := by
  rw [← sumF_perm (syms_perm F)]
  unfold usedF
  rw [used_range, sumF_map, sumF_filter (fun s => decide (0 < F.getD s 0)) (List.range F.length)]
  have e : sumF f ((List.range F.length).filter fun x => !decide (0 < F.getD x 0)) = 0 := by
    rw [sumF_congr (g := fun _ => 0) (fun j hj => by
      have := List.mem_filter.1 hj
      exact h j (List.mem_range.1 this.1) (by simpa using this.2)), sumF_const]
    simp
  rw [e, Int.add_zero]
  exact sumF_congr fun x _ => by simp
def costF : List Int → List Int → Int
  | a :: F, b :: l => a * b + costF F l
  | _, _ => 0
theorem getD_self {ls : List Nat} : (List.range ls.length).map (fun k => ls.getD k 0) = ls := by
  refine List.ext_getElem (by simp) fun i h1 h2 => ?_
  simp [List.getD_eq_getElem?_getD, h2]
theorem sum_places {α : Type} (f : α → Int) (l : List α) (g : Nat → Int) (h : ∀ k (hk : k < l.length), f l[k] = g k) : sumF f l = sumF g (List.range l.length) := by
  induction l generalizing g with
  | nil => rfl
  | cons a t ih =>
    rw [List.length_cons, List.range_succ_eq_map, sumF_cons, sumF_cons, sumF_map, ih (fun k => g (k + 1)) (fun k hk => h (k + 1) (by simpa using hk))]
    have := h 0 (by simp)
    simp only [List.getElem_cons_zero] at this
    rw [this]

section
variable {F : List Int} {L : Nat} (hF : ∀ f ∈ F, 0 ≤ f) (hL : 1 ≤ L ∧ L ≤ 15) (hU : (symsF F).length ≤ 2 ^ L)
theorem getD_nonneg (hF : ∀ f ∈ F, 0 ≤ f) (j : Nat) : 0 ≤ F.getD j 0 := by
  rw [List.getD_eq_getElem?_getD]
  rcases Nat.lt_or_ge j F.length with h | h
  · rw [List.getElem?_eq_getElem h]; exact hF _ (List.getElem_mem _)
  · rw [List.getElem?_eq_none h]; exact Int.le_refl _
/-- By which lengths by place the lengths are. -/
theorem lengthsF_rel (F : List Int) (L : Nat) : OutRel F (lengthsF F L) (if (symsF F).length < 2 then addF (symsF F).length (List.replicate (symsF F).length 0) else lensF (cntF (baseF F) (L - 1) (2 * (baseF F).length - 2)) (List.replicate (baseF F).length 0)) := by
  unfold lengthsF
  split
  · have := out_bump (out_start F) (symsF F).length
    rwa [List.take_length] at this
  · rw [base_length]
    exact out_fold _ (out_start F)
theorem lengthsF_length (F : List Int) (L : Nat) : (lengthsF F L).length = F.length := (lengthsF_rel F L).len
theorem out_weight {o : List Int} {ls : List Nat} (h : OutRel F o ls) (h1 : ∀ k, k < ls.length → 1 ≤ ls.getD k 0) : sumF wtF o = kwF ls := by
  rw [sum_range, h.len, sum_syms F (fun j => wtF (o.getD j 0)) (fun j _ hj => by
    show wtF (o.getD j 0) = 0
    rw [h.zero j (fun hm => by
      obtain ⟨s, e, _, h2⟩ := (syms_mem F j).1 hm
      have : j = s := by omega
      subst this; exact hj h2)]; rfl)]
  unfold kwF
  rw [sum_places (fun x : Int => wtF (o.getD x.toNat 0)) (symsF F) (fun k => (2 : Int) ^ (15 - ls.getD k 0)) (fun k hk => ?_), ← h.lsl]
  · conv => rhs; rw [← getD_self (ls := ls), sumF_map]
  · rw [h.get k hk]
    have := h1 k (by rw [h.lsl]; exact hk)
    unfold wtF
    rw [if_pos (by omega)]
    simp
include hL hU
theorem places_ok {ls : List Nat} (hls : ls = if (symsF F).length < 2 then addF (symsF F).length (List.replicate (symsF F).length 0) else lensF (cntF (baseF F) (L - 1) (2 * (baseF F).length - 2)) (List.replicate (baseF F).length 0)) :
    ∀ k, k < (symsF F).length → 1 ≤ ls.getD k 0 ∧ ls.getD k 0 ≤ L := by
  intro k hk
  subst hls
  split
  · rw [addF_get, if_pos ⟨hk, by simpa using hk⟩, rep_zero]
    omega
  · next h =>
    have hw := whole (base_law F) L (by rw [base_length]; omega) hL (by rw [base_length]; exact hU)
    rw [base_length] at hw ⊢
    exact hw.2 k hk
/-- None above the limit; none but of what has frequency none. -/
theorem lengthsF_range (hF : ∀ f ∈ F, 0 ≤ f) (j : Nat) (hj : j < F.length) : 0 ≤ (lengthsF F L).getD j 0 ∧ (lengthsF F L).getD j 0 ≤ L ∧ ((lengthsF F L).getD j 0 = 0 ↔ F.getD j 0 = 0) := by
  obtain ⟨ls, hls⟩ : ∃ ls, ls = if (symsF F).length < 2 then addF (symsF F).length (List.replicate (symsF F).length 0) else lensF (cntF (baseF F) (L - 1) (2 * (baseF F).length - 2)) (List.replicate (baseF F).length 0) := ⟨_, rfl⟩
  have hr := lengthsF_rel F L
  rw [← hls] at hr
  have hp := places_ok (F := F) hL hU hls
  have h0 := getD_nonneg hF j
  by_cases hm : (j : Int) ∈ symsF F
  · obtain ⟨k, hk, e⟩ := List.getElem_of_mem hm
    have hg := hr.get k hk
    rw [e] at hg
    simp only [Int.toNat_natCast] at hg
    have h1 := hp k hk
    obtain ⟨s, e2, _, h2⟩ := (syms_mem F j).1 hm
    have : j = s := by omega
    subst this
    rw [hg]
    omega
  · rw [hr.zero j hm]
    have : ¬ 0 < F.getD j 0 := fun h => hm ((syms_mem F j).2 ⟨j, rfl, hj, h⟩)
    omega
/-- The weight. -/
theorem lengthsF_weight : sumF wtF (lengthsF F L) = if (symsF F).length < 2 then ((symsF F).length : Int) * 2 ^ 14 else 2 ^ 15 := by
  obtain ⟨ls, hls⟩ : ∃ ls, ls = if (symsF F).length < 2 then addF (symsF F).length (List.replicate (symsF F).length 0) else lensF (cntF (baseF F) (L - 1) (2 * (baseF F).length - 2)) (List.replicate (baseF F).length 0) := ⟨_, rfl⟩
  have hr := lengthsF_rel F L
  rw [← hls] at hr
  have hp := places_ok (F := F) hL hU hls
  rw [out_weight hr (fun k hk => (hp k (by rw [← hr.lsl]; exact hk)).1), hls]
  split
  · next h =>
    rw [kw_addF (t := 0) (by simp) (fun k _ => rep_zero _ _) (by omega)]
    have e : kwF (List.replicate (symsF F).length 0) = (symsF F).length * 2 ^ 15 := by
      unfold kwF
      rw [sumF_congr (g := fun _ => (2 : Int) ^ 15) (fun l hl => by rw [(List.mem_replicate.1 hl).2]), sumF_const, List.length_replicate]
    rw [e]
    omega
  · next h =>
    exact (whole (base_law F) L (by rw [base_length]; omega) hL (by rw [base_length]; exact hU)).1
end

/-! ### costs -/
end Go.Proofs.Ytpbodonmiepilaa
/- huff: plainly, what the walks tell (1). No program in sight. -/
namespace Go.Proofs.Ytpbodonmiepilaa
open Go.RowKit

theorem getD_get {F : List Int} {i : Nat} (h : i < F.length) : F[i]? = some (F.getD i 0) := by
  rw [List.getD_eq_getElem?_getD, List.getElem?_eq_getElem h]; rfl
theorem rd_len {w : World} {v : Value} {n : Nat} {F : List Int} (hr : Rd w 1 v n (nums F)) : F.length = n := by have := hr.len; rw [nums_length] at this; omega
def okLen (x : Int) : Bool := decide (0 ≤ x) && decide (x ≤ 15)
/-- May lengths be? -/
def mayF (l : List Int) : Bool := decide (l.length ≤ 320) && l.all okLen
theorem mayF_len {l : List Int} (h : mayF l = true) : l.length ≤ 320 ∧ ∀ x ∈ l, 0 ≤ x ∧ x ≤ 15 := by
  unfold mayF at h
  simp only [Bool.and_eq_true, decide_eq_true_eq, List.all_eq_true, okLen] at h
  exact ⟨h.1, fun x hx => h.2 x hx⟩
theorem all_take_succ {p : Int → Bool} {F : List Int} {i : Nat} (h : i < F.length) : (F.take (i + 1)).all p = ((F.take i).all p && p (F.getD i 0)) := by
  rw [List.take_add_one, getD_get h, List.all_append]
  simp
def badF (f : Int) : Bool := decide (f < 0 ∨ 4294967296 < f)
def anyBad (F : List Int) : Bool := F.any badF
theorem rd_num {w w' : World} {n : Nat} {F : List Int} {v : Value} {ps : List Piece} (hr : Rd w 1 v n (nums F)) (H : Own w w' ps) {i : Nat} (hi : i < F.length) {a : Option Addr} {c : Nat} (hv : v = .slice a n c) : ∃ b o, a = some ⟨b, o, none⟩ ∧ w'.cell? ⟨b, o + i, none⟩ = some (.int .i64 (F.getD i 0)) := by
  subst hv
  obtain ⟨b, o, c', he, _⟩ := hr.some (by rw [nums_length]; omega)
  cases he
  exact ⟨b, o, rfl, (hr.old H).cell (nums_get (by rw [List.getElem?_eq_getElem hi]; simp [List.getD_eq_getElem?_getD, hi]))⟩
/-- An int that is read. -/
theorem rd_at {w w' : World} {n : Nat} {F : List Int} {a : Option Addr} {c : Nat} {ps : List Piece} (hr : Rd w 1 (.slice a n c) n (nums F)) (H : Own w w' ps) {i : Nat} (hi : i < n) : ∃ b o, a = some ⟨b, o, none⟩ ∧ w'.cell? ⟨b, o + i, none⟩ = some (.int .i64 (F.getD i 0)) :=
  rd_num hr H (by have := hr.len; rw [nums_length] at this; omega) rfl
/-- Which error Lengths has; its lengths. -/
def badArg (F : List Int) (L : Int) : Bool := decide (L < 1) || decide (15 < L) || decide (320 < F.length) || anyBad F
def errF (F : List Int) (L : Int) : Int := if badArg F L then 1 else if 2 ^ L.toNat < (usedF F).length then 3 else 0
def resF (F : List Int) (L : Int) : List Int := if errF F L = 0 then lengthsF F L.toNat else []
/-- How many symbols have each length. -/
def countsF (l : List Int) : List Int := (bumpF (zerosF 16) l).set 0 0
theorem bump_bound (l : List Int) : ∀ (o : List Int) (j : Nat) (B : Int), (∀ j, 0 ≤ o.getD j 0 ∧ o.getD j 0 ≤ B) → 0 ≤ (bumpF o l).getD j 0 ∧ (bumpF o l).getD j 0 ≤ B + l.length := by
  induction l with
  | nil => intro o j B h; have := h j; simp [bumpF] at this ⊢; omega
  | cons x t ih =>
    intro o j B h
    have h2 : ∀ j, 0 ≤ (bump1 o x).getD j 0 ∧ (bump1 o x).getD j 0 ≤ B + 1 := by
      intro j
      unfold bump1
      have h1 := h j
      have h3 := h x.toNat
      rw [List.getD_eq_getElem?_getD, List.getElem?_set]
      rw [List.getD_eq_getElem?_getD] at h1
      split
      · split
        · simp; simp at h3; omega
        · simp; have := h 0; omega
      · omega
    have := ih (bump1 o x) j (B + 1) h2
    show 0 ≤ (bumpF (bump1 o x) t).getD j 0 ∧ (bumpF (bump1 o x) t).getD j 0 ≤ _
    rw [List.length_cons]
    omega
theorem zeros_get (n j : Nat) : (zerosF n).getD j 0 = 0 := by
  unfold zerosF
  rw [List.getD_eq_getElem?_getD, List.getElem?_replicate]
  split <;> rfl
/-- How many codes are left, of these counts. -/
def leftL : Int → List Int → Int
  | n, [] => n
  | n, k :: t => if 2 * n - k < 0 then -1 else leftL (2 * n - k) t
def leftF (cs : List Int) : Int := leftL 1 (cs.drop 1)
theorem nums_set (o : List Int) (s : Nat) (x : Int) : (nums o).set s (.int .i64 x) = nums (o.set s x) := by simp [nums, List.map_set]
theorem bump_take {o syms : List Int} {j : Nat} {x : Int} (hx : syms[j]? = some x) : bumpF o (syms.take (j + 1)) = bump1 (bumpF o (syms.take j)) x := by
  unfold bumpF
  rw [List.take_add_one, hx, List.foldl_append]
  rfl
theorem arr_set (cs : List Int) (k : Nat) (v : Int) : (nums cs).toArray.setIfInBounds k (.int .i64 v) = (nums (cs.set k v)).toArray := by
  rw [List.setIfInBounds_toArray, nums_set]
theorem arr_get {cs : List Int} {k : Nat} (h : k < cs.length) : (nums cs).toArray[k]? = some (.int .i64 (cs.getD k 0)) := by
  rw [List.getElem?_toArray]
  exact nums_get (getD_get h)
theorem arr_zero : (nums (zerosF 16)).toArray = #[.int .i64 0, .int .i64 0, .int .i64 0, .int .i64 0, .int .i64 0, .int .i64 0, .int .i64 0, .int .i64 0, .int .i64 0, .int .i64 0, .int .i64 0, .int .i64 0, .int .i64 0, .int .i64 0, .int .i64 0, .int .i64 0] := rfl
theorem nums_one (cs : List Int) : ∀ u ∈ nums cs, u.oneCell' = true := by
  intro u hu
  obtain ⟨x, _, rfl⟩ := List.mem_map.1 hu
  rfl
theorem store_whole (a b : List Value) (h : b.length = a.length) : (a.toArray.toList.take 0 ++ b ++ a.toArray.toList.drop (0 + b.length)).toArray = b.toArray := by
  simp [h]
/-- Which error Codes has; its codes. -/
def cerrF (l : List Int) : Int := if mayF l then (if sumF wtF l ≤ 2 ^ 15 then 0 else 2) else 1
theorem pow_pos_nat (d : Nat) (h : d ≤ 15) : ∃ p : Int, (2 : Int) ^ d = p ∧ 1 ≤ p ∧ p ≤ 32768 := by
  refine ⟨_, rfl, ?_, ?_⟩
  · have : (0 : Int) < 2 ^ d := Int.pow_pos (by omega)
    omega
  · have : (2 : Nat) ^ d ≤ 2 ^ 15 := Nat.pow_le_pow_right (by omega) h
    have h2 : ((2 ^ d : Nat) : Int) ≤ ((2 ^ 15 : Nat) : Int) := Int.ofNat_le.2 this
    simpa using h2
end Go.Proofs.Ytpbodonmiepilaa
/- huff: canonical codes, plainly. No program in sight. -/
namespace Go.Proofs.Ytpbodonmiepilaa

/-- How many lengths are k. -/
def cntL (l : List Int) (k : Nat) : Nat := l.countP fun x => decide (x = (k : Int))
/-- The first code of a length. -/
def lowT (n : Nat) (x : Int) : Int := if 0 < x ∧ x < n then 2 ^ (n - x.toNat) else 0
def lowF (l : List Int) (n : Nat) : Int := sumF (lowT n) l
/-- As the counts have it: none of length 0. -/
def cntC (l : List Int) (k : Nat) : Int := if k = 0 then 0 else cntL l k
/-- A symbol's code. -/
def codeF (l : List Int) (s : Nat) : Int := if 0 < l.getD s 0 then lowF l (l.getD s 0).toNat + cntL (l.take s) (l.getD s 0).toNat else 0
def codesF (l : List Int) : List Int := (List.range l.length).map (codeF l)
theorem codesF_length (l : List Int) : (codesF l).length = l.length := by simp [codesF]
theorem codesF_get {l : List Int} {s : Nat} (h : s < l.length) : (codesF l).getD s 0 = codeF l s := by
  unfold codesF
  rw [List.getD_eq_getElem?_getD]
  simp [h]

section
variable {l : List Int}
theorem cntL_take_succ {k s : Nat} (h : s < l.length) : cntL (l.take (s + 1)) k = cntL (l.take s) k + if l.getD s 0 = (k : Int) then 1 else 0 := by
  unfold cntL
  rw [List.take_add_one, getD_get h, List.countP_append]
  simp
theorem cntL_le (l : List Int) (k : Nat) : cntL l k ≤ l.length := List.countP_le_length
theorem cntL_take_le (l : List Int) (s k : Nat) : cntL (l.take s) k ≤ cntL l k := (List.take_sublist s l).countP_le
theorem lowT_nonneg (n : Nat) (x : Int) : 0 ≤ lowT n x := by
  unfold lowT
  split
  · exact Int.le_of_lt (Int.pow_pos (by omega))
  · exact Int.le_refl _
theorem lowF_nonneg (l : List Int) (n : Nat) : 0 ≤ lowF l n := sumF_nonneg fun x _ => lowT_nonneg n x
theorem lowF_zero (l : List Int) : lowF l 0 = 0 := by
  unfold lowF
  rw [sumF_congr (g := fun _ => 0) (fun x _ => by unfold lowT; rw [if_neg]; rintro ⟨h1, h2⟩; have : x < 0 := h2; omega), sumF_const]
  simp
theorem lowF_succ (l : List Int) (n : Nat) : lowF l (n + 1) = 2 * (lowF l n + cntC l n) := by
  have key : ∀ x : Int, lowT (n + 1) x = 2 * (lowT n x + if x = (n : Int) ∧ n ≠ 0 then 1 else 0) := by
    intro x
    unfold lowT
    by_cases h1 : 0 < x ∧ x < n
    · rw [if_pos h1, if_pos ⟨h1.1, by omega⟩, if_neg (by omega), show n + 1 - x.toNat = (n - x.toNat) + 1 by omega, Int.pow_succ]
      omega
    · rw [if_neg h1]
      by_cases h2 : x = (n : Int) ∧ n ≠ 0
      · rw [if_pos h2, if_pos ⟨by omega, by omega⟩]
        have : n + 1 - x.toNat = 1 := by omega
        rw [this]
        rfl
      · rw [if_neg h2, if_neg (by omega)]
        rfl
  unfold lowF
  rw [sumF_congr (fun x _ => key x)]
  clear key
  have h2 : ∀ l : List Int, sumF (fun x => 2 * (lowT n x + if x = (n : Int) ∧ n ≠ 0 then 1 else 0)) l = 2 * (sumF (lowT n) l + cntC l n) := by
    intro l
    induction l with
    | nil => simp [sumF, cntC, cntL]
    | cons x t ih =>
      rw [sumF_cons, ih, sumF_cons]
      unfold cntC cntL
      rw [List.countP_cons]
      by_cases hn : n = 0
      · simp [hn]; omega
      · by_cases hx : x = (n : Int)
        · simp [hn, hx]; omega
        · simp [hn, hx]; omega
  exact h2 l
theorem low_weight (hl : ∀ x ∈ l, 0 ≤ x ∧ x ≤ 15) : lowF l 15 + cntC l 15 = sumF wtF l := by
  have h := lowF_succ l 15
  have key : lowF l 16 = 2 * sumF wtF l := by
    unfold lowF
    clear h
    induction l with
    | nil => rfl
    | cons x t ih =>
      rw [sumF_cons, sumF_cons, ih fun y hy => hl y (by simp [hy])]
      have := hl x (by simp)
      have e : lowT 16 x = 2 * wtF x := by
        unfold lowT wtF
        by_cases hx : 0 < x
        · rw [if_pos ⟨hx, by omega⟩, if_pos hx, show 16 - x.toNat = (15 - x.toNat) + 1 by omega, Int.pow_succ]
          omega
        · rw [if_neg (by omega), if_neg hx]; rfl
      rw [e]
      omega
  have e : lowF l (15 + 1) = lowF l 16 := rfl
  rw [e, key] at h
  omega
theorem cntC_nonneg (l : List Int) (k : Nat) : 0 ≤ cntC l k := by unfold cntC; split <;> omega
/-- What a level takes, further on. -/
theorem low_far (l : List Int) (n : Nat) : ∀ d, 2 ^ (d + 1) * (lowF l n + cntC l n) ≤ lowF l (n + 1 + d) := by
  intro d
  induction d with
  | zero => rw [Nat.add_zero, lowF_succ]; simp
  | succ d ih =>
    rw [← Nat.add_assoc, lowF_succ, Int.pow_succ]
    have := cntC_nonneg l (n + 1 + d)
    have e : (2 : Int) ^ (d + 1) * 2 * (lowF l n + cntC l n) = 2 * (2 ^ (d + 1) * (lowF l n + cntC l n)) := by
      rw [Int.mul_comm (2 ^ (d + 1)) 2, Int.mul_assoc]
    rw [e]
    omega
/-- What is not too great is so on each level. -/
theorem low_room (hl : ∀ x ∈ l, 0 ≤ x ∧ x ≤ 15) (hw : sumF wtF l ≤ 2 ^ 15) (n : Nat) (hn : n ≤ 15) : lowF l n + cntC l n ≤ 2 ^ n := by
  rw [← low_weight hl] at hw
  rcases Nat.lt_or_ge n 15 with h | h
  · have h1 := low_far l n (14 - n)
    have e : n + 1 + (14 - n) = 15 := by omega
    rw [e] at h1
    have h2 := cntC_nonneg l 15
    have h3 : (2 : Int) ^ (14 - n + 1) * (lowF l n + cntC l n) ≤ 2 ^ (14 - n + 1) * 2 ^ n := by
      rw [← Int.pow_add, show 14 - n + 1 + n = 15 by omega]
      omega
    exact Int.le_of_mul_le_mul_left h3 (Int.pow_pos (by omega))
  · have : n = 15 := by omega
    subst this
    exact hw
theorem counts_get (hl : ∀ x ∈ l, 0 ≤ x ∧ x ≤ 15) (k : Nat) (hk : k < 16) : (countsF l).getD k 0 = cntC l k := by
  have hb : (bumpF (zerosF 16) l).length = 16 := by rw [bumpF_length]; simp [zerosF]
  unfold countsF cntC
  rw [List.getD_eq_getElem?_getD, List.getElem?_set]
  by_cases h0 : k = 0
  · subst h0
    rw [if_pos rfl, if_pos rfl, if_pos (by omega)]
    rfl
  · rw [if_neg (fun e => h0 e.symm), if_neg h0, ← List.getD_eq_getElem?_getD, bumpF_get _ _ _ (fun x hx => ⟨x.toNat, by have := hl x hx; omega, by have := hl x hx; simp [zerosF]; omega⟩), zeros_get]
    unfold cntL
    omega
theorem counts_length (l : List Int) : (countsF l).length = 16 := by unfold countsF; rw [List.length_set, bumpF_length]; simp [zerosF]
theorem left_step (l : List Int) (hl : ∀ x ∈ l, 0 ≤ x ∧ x ≤ 15) : ∀ m j, j + m = 15 → lowF l j + cntC l j ≤ 2 ^ j →
    leftL (2 ^ j - (lowF l j + cntC l j)) ((countsF l).drop (1 + j)) = if sumF wtF l ≤ 2 ^ 15 then 2 ^ 15 - sumF wtF l else -1 := by
  intro m
  induction m with
  | zero =>
    intro j hj hle
    have : j = 15 := by omega
    subst this
    rw [List.drop_eq_nil_of_le (by rw [counts_length]; omega), leftL]
    rw [low_weight hl] at hle ⊢
    rw [if_pos hle]
  | succ m ih =>
    intro j hj hle
    have hd : (countsF l).drop (1 + j) = (countsF l).getD (1 + j) 0 :: (countsF l).drop (1 + (j + 1)) := by
      have := counts_length l
      rw [List.drop_eq_getElem_cons (by omega), List.getD_eq_getElem?_getD, List.getElem?_eq_getElem (by omega)]
      rfl
    rw [hd, leftL, counts_get hl _ (by omega)]
    have e : 2 * (2 ^ j - (lowF l j + cntC l j)) - cntC l (1 + j) = 2 ^ (j + 1) - (lowF l (j + 1) + cntC l (j + 1)) := by
      rw [lowF_succ, Int.pow_succ, Nat.add_comm 1 j]
      omega
    rw [e]
    by_cases hneg : 2 ^ (j + 1) - (lowF l (j + 1) + cntC l (j + 1)) < 0
    · rw [if_pos hneg, if_neg]
      intro hw
      have := low_room hl hw (j + 1) (by omega)
      omega
    · rw [if_neg hneg]
      exact ih (j + 1) (by omega) (by omega)
theorem left_law (hl : ∀ x ∈ l, 0 ≤ x ∧ x ≤ 15) : leftF (countsF l) = if sumF wtF l ≤ 2 ^ 15 then 2 ^ 15 - sumF wtF l else -1 := by
  have := left_step l hl 15 0 rfl (by rw [lowF_zero]; simp [cntC])
  rw [lowF_zero] at this
  exact this

/-! ### codes -/
theorem code_lt {s : Nat} (hs : s < l.length) (h0 : 0 < l.getD s 0) : codeF l s + 1 ≤ lowF l (l.getD s 0).toNat + cntC l (l.getD s 0).toNat := by
  unfold codeF cntC
  rw [if_pos h0, if_neg (by omega)]
  have h1 := cntL_take_succ (k := (l.getD s 0).toNat) hs
  rw [if_pos (by omega)] at h1
  have h2 := cntL_take_le l (s + 1) (l.getD s 0).toNat
  omega
theorem code_nonneg (s : Nat) : 0 ≤ codeF l s := by
  unfold codeF
  split
  · have := lowF_nonneg l (l.getD s 0).toNat; omega
  · omega
/-- Each code goes into its length. -/
theorem code_fits (hl : ∀ x ∈ l, 0 ≤ x ∧ x ≤ 15) (hw : sumF wtF l ≤ 2 ^ 15) {s : Nat} (hs : s < l.length) (h0 : 0 < l.getD s 0) : codeF l s < 2 ^ (l.getD s 0).toNat := by
  have h1 := code_lt hs h0
  have hm : l.getD s 0 ∈ l := by rw [List.getD_eq_getElem?_getD, List.getElem?_eq_getElem hs]; exact List.getElem_mem _
  have h2 := low_room hl hw (l.getD s 0).toNat (by have := hl _ hm; omega)
  omega
/-! ### the document's sum -/
/-- What stands ahead of a symbol, of the first k, in parts of 2^15. -/
def befT (l : List Int) (s t : Nat) : Int := if 0 < l.getD t 0 ∧ (l.getD t 0 < l.getD s 0 ∨ l.getD t 0 = l.getD s 0 ∧ t < s) then 2 ^ (15 - (l.getD t 0).toNat) else 0
def befN (l : List Int) (s : Nat) : Nat → Int
  | 0 => 0
  | k + 1 => befN l s k + befT l s k
end
end Go.Proofs.Ytpbodonmiepilaa
/- append of a string's bytes to a slice of the call's own; bytes made a string. No program in sight. -/
namespace Go.Proofs.Ytpbodonmiepilaa
open Go.RowKit Go.Lib

section
variable {w0 w w' : World} {p q : Piece} {ps qs : List Piece} {e : TypeId} {n : Nat} {v : Value} {xs : List Value}
variable {P : Program} {t u ty : TypeId} {i : TypeInfo} {z : Value}

end
end Go.Proofs.Ytpbodonmiepilaa
/- Bits: lists of bits, and the bytes that they are. No program in sight. -/
namespace Go.Proofs.Ytpbodonmiepilaa

def bi (b : Bool) : Int := if b then 1 else 0
theorem bi_bd (b : Bool) : 0 ≤ bi b ∧ bi b ≤ 1 := by cases b <;> decide
/-- The number that bits are, the lowest first. -/
def valOf : List Bool → Int
  | [] => 0
  | b :: t => bi b + 2 * valOf t
theorem valOf_bd : ∀ l : List Bool, 0 ≤ valOf l ∧ valOf l < 2 ^ l.length
  | [] => by simp [valOf]
  | b :: t => by
    have h := valOf_bd t
    have hb := bi_bd b
    simp only [valOf, List.length_cons, Int.pow_succ]
    omega
theorem valOf_append : ∀ l m : List Bool, valOf (l ++ m) = valOf l + 2 ^ l.length * valOf m
  | [], m => by simp [valOf]
  | b :: t, m => by
    simp only [List.cons_append, valOf, valOf_append t m, List.length_cons, Int.pow_succ]
    rw [Int.mul_add, Int.mul_comm (2 ^ t.length) 2, Int.mul_assoc]
    omega
theorem valOf_snoc (l : List Bool) (b : Bool) : valOf (l ++ [b]) = valOf l + 2 ^ l.length * bi b := by
  rw [valOf_append]; simp [valOf]

theorem pow2_le {a b : Nat} (h : a ≤ b) : (2 : Int) ^ a ≤ 2 ^ b := by
  have := Int.ofNat_le.2 (Nat.pow_le_pow_right (show 0 < 2 by decide) h)
  simpa [Int.natCast_pow] using this
/-- The k-th byte. -/
def byteAt (bs : List Bool) (k : Nat) : Int := valOf ((bs.drop (8 * k)).take 8)
theorem byteAt_bd (bs : List Bool) (k : Nat) : 0 ≤ byteAt bs k ∧ byteAt bs k < 256 := by
  have h := valOf_bd ((bs.drop (8 * k)).take 8)
  refine ⟨h.1, Int.lt_of_lt_of_le h.2 ?_⟩
  have hl : ((bs.drop (8 * k)).take 8).length ≤ 8 := by simp; omega
  exact pow2_le hl
/-- A byte that is not full yet. -/
theorem byteAt_bd' (bs : List Bool) : byteAt bs (bs.length / 8) < 2 ^ (bs.length % 8) := by
  have h := valOf_bd ((bs.drop (8 * (bs.length / 8))).take 8)
  have hl : ((bs.drop (8 * (bs.length / 8))).take 8).length = bs.length % 8 := by simp; omega
  rw [hl] at h
  exact h.2
theorem byteAt_out (bs : List Bool) (k : Nat) (h : bs.length ≤ 8 * k) : byteAt bs k = 0 := by
  unfold byteAt
  rw [List.drop_eq_nil_of_le h]
  rfl
theorem byteAt_snoc (bs : List Bool) (b : Bool) (k : Nat) : byteAt (bs ++ [b]) k = if k = bs.length / 8 then byteAt bs k + 2 ^ (bs.length % 8) * bi b else byteAt bs k := by
  unfold byteAt
  split
  · next h =>
    subst h
    have hl : (bs.drop (8 * (bs.length / 8))).length = bs.length % 8 := by simp; omega
    rw [List.drop_append_of_le_length (by omega), List.take_of_length_le (by simp; omega), List.take_of_length_le (by omega), valOf_snoc, hl]
  · next h =>
    by_cases hk : 8 * k ≤ bs.length
    · rw [List.drop_append_of_le_length hk, List.take_append_of_le_length (by simp; omega)]
    · rw [List.drop_eq_nil_of_le (by simp; omega), List.drop_eq_nil_of_le (by omega)]

def nbytes (n : Nat) : Nat := (n + 7) / 8
/-- The bytes. -/
def bytesOf (bs : List Bool) : List Int := (List.range (nbytes bs.length)).map (byteAt bs)
theorem bytesOf_length (bs : List Bool) : (bytesOf bs).length = nbytes bs.length := by simp [bytesOf]
theorem bytesOf_get (bs : List Bool) {k : Nat} (h : k < nbytes bs.length) : (bytesOf bs)[k]? = some (byteAt bs k) := by simp [bytesOf, h]
/-- One bit more: the row in which its byte is there, that byte turned. -/
theorem bytesOf_snoc (bs : List Bool) (b : Bool) (L : List Int) (hL : L = if bs.length % 8 = 0 then bytesOf bs ++ [0] else bytesOf bs) :
    L.length = nbytes (bs.length + 1) ∧ L[bs.length / 8]? = some (byteAt bs (bs.length / 8)) ∧ bytesOf (bs ++ [b]) = L.set (bs.length / 8) (byteAt bs (bs.length / 8) + 2 ^ (bs.length % 8) * bi b) := by
  have hlen : L.length = nbytes (bs.length + 1) := by
    rw [hL]
    split <;> simp [bytesOf_length, nbytes] <;> omega
  have hget : ∀ k, k < nbytes (bs.length + 1) → L[k]? = some (byteAt bs k) := by
    intro k hk
    rw [hL]
    split
    · next h0 =>
      by_cases hk2 : k < nbytes bs.length
      · rw [List.getElem?_append_left (by rw [bytesOf_length]; exact hk2), bytesOf_get bs hk2]
      · unfold nbytes at hk hk2
        rw [List.getElem?_append_right (by rw [bytesOf_length]; unfold nbytes; omega), bytesOf_length, byteAt_out bs k (by omega)]
        have : k - nbytes bs.length = 0 := by unfold nbytes; omega
        rw [this]; rfl
    · next h0 => exact bytesOf_get bs (by unfold nbytes at *; omega)
  refine ⟨hlen, hget _ (by unfold nbytes; omega), ?_⟩
  apply List.ext_getElem?
  intro k
  by_cases hk : k < nbytes (bs.length + 1)
  · rw [bytesOf_get _ (by simpa using hk), byteAt_snoc, List.getElem?_set]
    split
    · next h => rw [if_pos h.symm, if_pos (by omega), h]
    · next h => rw [if_neg (by omega), hget k hk]
  · rw [List.getElem?_eq_none (by rw [bytesOf_length]; simp; omega), List.getElem?_eq_none (by rw [List.length_set]; omega)]

/-- Aligned: zeros up to the next byte. -/
def padN (n : Nat) : Nat := (8 - n % 8) % 8
def aligned (bs : List Bool) : List Bool := bs ++ List.replicate (padN bs.length) false
/-! ### numbers -/
def bitOf (v : Int) (i : Nat) : Bool := decide (v / 2 ^ i % 2 = 1)
theorem bi_bitOf (v : Int) (i : Nat) : bi (bitOf v i) = v / 2 ^ i % 2 := by
  unfold bi bitOf
  simp only [decide_eq_true_eq]
  split <;> omega
def bitsOf (v : Int) (n : Nat) : List Bool := (List.range n).map (bitOf v)
theorem bitsOf_length (v : Int) (n : Nat) : (bitsOf v n).length = n := by simp [bitsOf]
theorem bitsOf_succ (v : Int) (n : Nat) : bitsOf v (n + 1) = bitsOf v n ++ [bitOf v n] := by simp [bitsOf, List.range_succ]
end Go.Proofs.Ytpbodonmiepilaa
/- huff: tables and decoding, plainly. No program in sight. -/
namespace Go.Proofs.Ytpbodonmiepilaa

/-- The symbols of a length, by their numbers. -/
def symsN (l : List Int) (n k : Nat) : List Nat := (List.range k).filter fun s => decide (l.getD s 0 = (n : Int))
def symsL (l : List Int) (n : Nat) : List Nat := symsN l n l.length
/-- A table's symbols, of lengths up to n. -/
def tsymsN (l : List Int) : Nat → List Nat
  | 0 => []
  | n + 1 => tsymsN l n ++ symsL l (n + 1)
def tsymsF (l : List Int) : List Nat := tsymsN l 15

section
variable {l : List Int}
/-- How many symbols are shorter. -/
def atF (l : List Int) : Nat → Int
  | 0 => 0
  | n + 1 => atF l n + cntC l n
/-- What is decoded: the symbol, the error, how many bits were read. -/
def decN (l : List Int) : Nat → Nat → Int → List Bool → Int × Int × Nat
  | 0, _, _, _ => (0, 2, 0)
  | _ + 1, _, _, [] => (0, 2, 0)
  | f + 1, n, c, b :: t => match (symsL l (n + 1))[(2 * c + bi b - lowF l (n + 1)).toNat]? with
    | some s => (s, 0, 1)
    | none => ((decN l f (n + 1) (2 * c + bi b) t).1, (decN l f (n + 1) (2 * c + bi b) t).2.1, (decN l f (n + 1) (2 * c + bi b) t).2.2 + 1)
def decF (l : List Int) (bs : List Bool) : Int × Int × Nat := decN l 15 0 0 bs
end
end Go.Proofs.Ytpbodonmiepilaa
/- Laws on int's bit operations. No program in sight. -/
namespace Go.Proofs.Ytpbodonmiepilaa
open Go.RowKit

theorem i64_and_mask (n : Int) (k : Nat) (hk : k ≤ 62) : bits .and .i64 n ((2 ^ k - 1 : Nat) : Int) = n % ((2 ^ k : Nat) : Int) := by
  have hp : 2 ^ k ≤ 2 ^ 62 := Nat.pow_le_pow_right (by omega) hk
  have hp0 : 0 < 2 ^ k := Nat.pow_pos (by omega)
  have hm : (BitVec.ofInt 64 ((2 ^ k - 1 : Nat) : Int)).toNat = 2 ^ k - 1 := by
    rw [BitVec.toNat_ofInt]
    omega
  have hd : (2 ^ k : Nat) ∣ 2 ^ 64 := Nat.pow_dvd_pow 2 (by omega)
  have key : (BitVec.ofInt 64 n &&& BitVec.ofInt 64 ((2 ^ k - 1 : Nat) : Int)).toNat = (n % ((2 ^ 64 : Nat) : Int)).toNat % 2 ^ k := by
    rw [BitVec.toNat_and, hm, BitVec.toNat_ofInt, Nat.and_two_pow_sub_one_eq_mod]
  show IntKind.i64.wrap ((BitVec.ofInt 64 n &&& BitVec.ofInt 64 ((2 ^ k - 1 : Nat) : Int)).toNat : Nat) = _
  rw [key, IntKind.wrap_i64]
  have h1 : (((n % ((2 ^ 64 : Nat) : Int)).toNat % 2 ^ k : Nat) : Int) = n % ((2 ^ k : Nat) : Int) := by
    rw [Int.natCast_emod, Int.toNat_of_nonneg (Int.emod_nonneg _ (by omega))]
    exact Int.emod_emod_of_dvd n (Int.natCast_dvd_natCast.2 hd)
  rw [h1]
  have h2 := Int.emod_nonneg n (show ((2 ^ k : Nat) : Int) ≠ 0 by omega)
  have h3 := Int.emod_lt_of_pos n (show (0 : Int) < ((2 ^ k : Nat) : Int) by omega)
  omega
theorem i64_and1 (n : Int) : bits .and .i64 n 1 = n % 2 := i64_and_mask n 1 (by omega)

theorem or8_all : ∀ r : Fin 8, ∀ x : Fin 128, ∀ c : Fin 2, x.1 < 2 ^ r.1 → IntKind.u8.wrap ((BitVec.ofInt 8 (x.1 : Int) ||| BitVec.ofInt 8 (IntKind.u8.wrap (IntKind.i64.wrap ((c.1 : Int) * 2 ^ r.1)))).toNat : Int) = (x.1 : Int) + 2 ^ r.1 * (c.1 : Int) := by decide +kernel
/-- One bit more of a byte that has r. -/
theorem or8 {x c : Int} {r : Nat} (hr : r < 8) (hx0 : 0 ≤ x) (hx1 : x < 2 ^ r) (hc0 : 0 ≤ c) (hc1 : c ≤ 1) :
    bits .or .u8 x (IntKind.u8.wrap (IntKind.i64.wrap (c * 2 ^ r))) = x + 2 ^ r * c := by
  have h1 : (2 : Int) ^ r ≤ 128 := by
    have : ∀ r : Fin 8, (2 : Int) ^ r.1 ≤ 128 := by decide
    exact this ⟨r, hr⟩
  have hx2 : x.toNat < 2 ^ r := by
    have : ((2 ^ r : Nat) : Int) = 2 ^ r := Int.natCast_pow 2 r
    omega
  have := or8_all ⟨r, hr⟩ ⟨x.toNat, by omega⟩ ⟨c.toNat, by omega⟩ hx2
  simp only [Int.toNat_of_nonneg hx0, Int.toNat_of_nonneg hc0] at this
  exact this
end Go.Proofs.Ytpbodonmiepilaa
/- Laws on int's bit operations, more. No program in sight. -/
namespace Go.Proofs.Ytpbodonmiepilaa
open Go.RowKit

end Go.Proofs.Ytpbodonmiepilaa
/- huff: plainly, what the walks tell (2). No program in sight. -/
namespace Go.Proofs.Ytpbodonmiepilaa
open Go.RowKit

def cresF (l : List Int) : List Int := if cerrF l = 0 then codesF l else []
theorem cerr_ok {l : List Int} (h : cerrF l = 0) : l.length ≤ 320 ∧ (∀ x ∈ l, 0 ≤ x ∧ x ≤ 15) ∧ sumF wtF l ≤ 2 ^ 15 := by
  unfold cerrF at h
  by_cases hm : mayF l = true
  · rw [if_pos hm] at h
    have := mayF_len hm
    refine ⟨this.1, this.2, ?_⟩
    by_cases hw : sumF wtF l ≤ 2 ^ 15
    · exact hw
    · rw [if_neg hw] at h; omega
  · rw [if_neg hm] at h; omega
/-- Which error New has. -/
def terrF (l : List Int) : Int := if mayF l then (if sumF wtF l = 32768 ∨ (usedF l).length = 0 ∨ (usedF l).length = 1 ∧ sumF wtF l = 16384 then 0 else 2) else 1
def natI (l : List Nat) : List Int := l.map Int.ofNat
def partT (F : List Int) (k j : Nat) : List Nat := tsymsN F k ++ symsN F (k + 1) j
def lenT (l : List Nat) : Nat := l.length
theorem used_count (F : List Int) : ∀ k, k ≤ F.length → (usedN F k).length = (F.take k).countP fun x => decide (0 < x) := by
  intro k
  induction k with
  | zero => intro _; simp [usedN]
  | succ k ih =>
    intro h
    rw [usedN, List.take_add_one, getD_get (by omega), List.countP_append, ← ih (by omega)]
    split
    · next h1 => rw [List.length_append]; simp [List.countP_cons]; simpa using h1
    · next h1 => simp [List.countP_cons]; simpa using h1
theorem few_weight : ∀ l : List Int, (∀ x ∈ l, 0 ≤ x ∧ x ≤ 15) → ((l.countP fun x => decide (0 < x)) = 0 → sumF wtF l = 0 ∧ cntL l 1 = 0) ∧ ((l.countP fun x => decide (0 < x)) = 1 → sumF wtF l ≤ 16384 ∧ (sumF wtF l = 16384 ↔ cntL l 1 = 1))
  | [], _ => by simp [sumF, cntL]
  | x :: t, hl => by
    have ih := few_weight t fun y hy => hl y (by simp [hy])
    have hx := hl x (by simp)
    rw [sumF_cons]
    unfold cntL at ih ⊢
    rw [List.countP_cons, List.countP_cons]
    by_cases h0 : 0 < x
    · have e0 : decide (0 < x) = true := by simp [h0]
      rw [e0, if_pos rfl]
      refine ⟨fun h => by omega, fun h => ?_⟩
      have h1 := ih.1 (by omega)
      rw [h1.1, h1.2]
      have hw : wtF x = 2 ^ (15 - x.toNat) := by unfold wtF; rw [if_pos h0]
      by_cases hx1 : x = 1
      · subst hx1
        rw [hw]; simp
      · have e1 : decide (x = ((1 : Nat) : Int)) = false := by simp; exact hx1
        rw [e1]
        have h2 : (2 : Int) ^ (15 - x.toNat) ≤ 2 ^ 13 := by
          have : (2 : Nat) ^ (15 - x.toNat) ≤ 2 ^ 13 := Nat.pow_le_pow_right (by omega) (by omega)
          exact_mod_cast this
        rw [hw]
        generalize (2 : Int) ^ (15 - x.toNat) = p at *
        simp
        omega
    · have e0 : decide (0 < x) = false := by simp; omega
      have e1 : decide (x = ((1 : Nat) : Int)) = false := by simp; omega
      have hw : wtF x = 0 := by unfold wtF; rw [if_neg h0]
      rw [e0, e1, hw]
      simpa using ih
/-- What a table needs. -/
theorem table_ok {l : List Int} (h : terrF l = 0) : l.length ≤ 320 ∧ (∀ x ∈ l, 0 ≤ x ∧ x ≤ 15) ∧ sumF wtF l ≤ 2 ^ 15 := by
  unfold terrF at h
  by_cases hm : mayF l = true
  · rw [if_pos hm] at h
    have := mayF_len hm
    refine ⟨this.1, this.2, ?_⟩
    by_cases hc : sumF wtF l = 32768 ∨ (usedF l).length = 0 ∨ (usedF l).length = 1 ∧ sumF wtF l = 16384
    · rcases hc with h1 | h1 | h1
      · omega
      · have h2 := few_weight l this.2
        unfold usedF at h1
        rw [used_count l _ (Nat.le_refl _), List.take_length] at h1
        have := (h2.1 h1).1
        omega
      · omega
    · rw [if_neg hc] at h; omega
  · rw [if_neg hm] at h; omega
/-- What Lengths gives, if it gives. -/
structure LenOk (F : List Int) (L : Int) (R : List Int) : Prop where
  lim : 1 ≤ L ∧ L ≤ 15
  few : F.length ≤ 320
  freq : ∀ f ∈ F, 0 ≤ f ∧ f ≤ 4294967296
  used : (symsF F).length ≤ 2 ^ L.toNat
  res : R = lengthsF F L.toNat
theorem len_ok {F : List Int} {L : Int} (h : errF F L = 0) : LenOk F L (resF F L) := by
  have h0 := h
  unfold errF at h
  by_cases hb : badArg F L = true
  · rw [if_pos hb] at h; omega
  · rw [if_neg hb] at h
    by_cases hu : 2 ^ L.toNat < (usedF F).length
    · rw [if_pos hu] at h; omega
    · unfold badArg at hb
      simp only [Bool.or_eq_true, decide_eq_true_eq, not_or] at hb
      obtain ⟨⟨⟨h1, h2⟩, h3⟩, h4⟩ := hb
      refine ⟨by omega, by omega, fun f hf => ?_, by rw [syms_length]; omega, ?_⟩
      · unfold anyBad at h4
        rw [List.any_eq_true] at h4
        have : ¬ badF f = true := fun hb => h4 ⟨f, hf, hb⟩
        simp only [badF, decide_eq_true_eq] at this
        omega
      · unfold resF; rw [if_pos h0]
section
variable {F R : List Int} {L : Int} (h : LenOk F L R)
include h
theorem LenOk.lim' : 1 ≤ L.toNat ∧ L.toNat ≤ 15 := by have := h.lim; omega
theorem LenOk.nn : ∀ f ∈ F, 0 ≤ f := fun f hf => (h.freq f hf).1
theorem LenOk.len : R.length = F.length := by rw [h.res, lengthsF_length]
theorem LenOk.get (j : Nat) (hj : j < F.length) : 0 ≤ R.getD j 0 ∧ R.getD j 0 ≤ L ∧ (R.getD j 0 = 0 ↔ F.getD j 0 = 0) := by
  rw [h.res]
  have := lengthsF_range h.lim' h.used h.nn j hj
  have := h.lim
  omega
theorem LenOk.all : ∀ x ∈ R, 0 ≤ x ∧ x ≤ 15 := fun x hx => by
  obtain ⟨j, hj, rfl⟩ := List.getElem_of_mem hx
  have h1 := h.get j (by rw [← h.len]; exact hj)
  rw [List.getD_eq_getElem?_getD, List.getElem?_eq_getElem hj] at h1
  have := h.lim
  simp only [Option.getD_some] at h1
  omega
theorem LenOk.weight : sumF wtF R = if (usedF F).length < 2 then ((usedF F).length : Int) * 16384 else 32768 := by
  rw [h.res, lengthsF_weight h.lim' h.used, syms_length]
  split <;> omega
end
end Go.Proofs.Ytpbodonmiepilaa
/- huff: what is written by codes is read, plainly. No program in sight. -/
namespace Go.Proofs.Ytpbodonmiepilaa

/-- A symbol's code, as bits. -/
def cbits (l : List Int) (s : Nat) : List Bool := (bitsOf (codeF l s) (l.getD s 0).toNat).reverse
theorem cbits_length (l : List Int) (s : Nat) : (cbits l s).length = (l.getD s 0).toNat := by unfold cbits; rw [List.length_reverse, bitsOf_length]
theorem mem_getD2 {F : List Int} {i : Nat} (h : i < F.length) : F.getD i 0 ∈ F := by
  rw [List.getD_eq_getElem?_getD, List.getElem?_eq_getElem h]
  exact List.getElem_mem _
section
variable {l : List Int}
/-- Of frequencies' lengths there are codes, and a table. -/
theorem LenOk.cod {F R : List Int} {L : Int} (h : LenOk F L R) : cerrF R = 0 ∧ terrF R = 0 ∧ cresF R = codesF R := by
  have hmy : mayF R = true := by
    unfold mayF
    rw [h.len, decide_eq_true h.few, Bool.true_and, List.all_eq_true]
    intro x hx
    have := h.all x hx
    simp [okLen]; omega
  have hus : (usedF R).length = (usedF F).length := by
    have : ∀ k, k ≤ F.length → usedN R k = usedN F k := by
      intro k
      induction k with
      | zero => intro _; rfl
      | succ k ih =>
        intro hk
        rw [usedN, usedN, ih (by omega)]
        have h1 := h.get k (by omega)
        have h2 := getD_nonneg h.nn k
        by_cases hp : 0 < F.getD k 0
        · rw [if_pos hp, if_pos (by omega)]
        · rw [if_neg hp, if_neg (by omega)]
    unfold usedF
    rw [h.len, this _ (Nat.le_refl _)]
  have hw := h.weight
  have hc : cerrF R = 0 := by
    unfold cerrF
    rw [if_pos hmy, if_pos]
    rw [hw]
    split <;> omega
  refine ⟨hc, ?_, by unfold cresF; rw [if_pos hc]⟩
  unfold terrF
  rw [if_pos hmy, hus, if_pos]
  rw [hw]
  by_cases h2 : (usedF F).length < 2
  · rw [if_pos h2]; omega
  · rw [if_neg h2]; omega
/-- All that is written. -/
def allBits (l : List Int) (P : List Nat) : List Bool := P.flatMap (cbits l)
end
end Go.Proofs.Ytpbodonmiepilaa
/- flate: symbols of lengths and distances, plainly. No program in sight. -/
namespace Go.Proofs.Ytpbodonmiepilaa

/-- How many bits more: the least e with n / 2^e below 2^(st+1). -/
def exN (st n : Nat) : Nat → Nat → Nat
  | 0, e => e
  | f + 1, e => if 2 ^ (st + 1) ≤ n / 2 ^ e then exN st n f (e + 1) else e
def exF (st n : Nat) : Nat := exN st n 64 0
def bandF (st n : Nat) : Nat × Nat × Nat := (exF st n * 2 ^ st + n / 2 ^ exF st n, exF st n, n % 2 ^ exF st n)
def lenSym (n : Nat) : Nat × Nat × Nat := if n = 258 then (285, 0, 0) else if n < 11 then (254 + n, 0, 0) else (257 + (bandF 2 (n - 3)).1, (bandF 2 (n - 3)).2)
def distSym (n : Nat) : Nat × Nat × Nat := if n < 5 then (n - 1, 0, 0) else bandF 1 (n - 1)
/-- The document's tables: the first number of each symbol, how many bits more. -/
def lensT : List (Nat × Nat) := [(3, 0), (4, 0), (5, 0), (6, 0), (7, 0), (8, 0), (9, 0), (10, 0), (11, 1), (13, 1), (15, 1), (17, 1), (19, 2), (23, 2), (27, 2), (31, 2), (35, 3), (43, 3), (51, 3), (59, 3), (67, 4), (83, 4), (99, 4), (115, 4), (131, 5), (163, 5), (195, 5), (227, 5), (258, 0)]
def distsT : List (Nat × Nat) := [(1, 0), (2, 0), (3, 0), (4, 0), (5, 1), (7, 1), (9, 2), (13, 2), (17, 3), (25, 3), (33, 4), (49, 4), (65, 5), (97, 5), (129, 6), (193, 6), (257, 7), (385, 7), (513, 8), (769, 8), (1025, 9), (1537, 9), (2049, 10), (3073, 10), (4097, 11), (6145, 11), (8193, 12), (12289, 12), (16385, 13), (24577, 13)]
/-- The last symbol whose first number is not above. -/
def findT (n : Nat) : List (Nat × Nat) → Nat → Nat × Nat × Nat → Nat × Nat × Nat
  | [], _, r => r
  | (a, k) :: t, i, r => findT n t (i + 1) (if a ≤ n then (i, k, n - a) else r)
def refLen (n : Nat) : Nat × Nat × Nat := findT n lensT 257 (257, 0, 0)
def refDist (n : Nat) : Nat × Nat × Nat := findT n distsT 0 (0, 0, 0)
/-- All of 2^d from a on. -/
def chk (p : Nat → Bool) : Nat → Nat → Bool
  | 0, a => p a
  | d + 1, a => chk p d a && chk p d (a + 2 ^ d)
theorem chk_all {p : Nat → Bool} : ∀ (d a : Nat), chk p d a = true → ∀ x, x < 2 ^ d → p (a + x) = true := by
  intro d
  induction d with
  | zero => intro a h x hx; have : x = 0 := by simpa using hx
            subst this; exact h
  | succ d ih =>
    intro a h x hx
    rw [chk, Bool.and_eq_true] at h
    rcases Nat.lt_or_ge x (2 ^ d) with h1 | h1
    · exact ih a h.1 x h1
    · have := ih (a + 2 ^ d) h.2 (x - 2 ^ d) (by rw [Nat.pow_succ] at hx; omega)
      rwa [show a + 2 ^ d + (x - 2 ^ d) = a + x by omega] at this
def distOk (x : Nat) : Bool := decide (distSym (x + 1) = refDist (x + 1))
end Go.Proofs.Ytpbodonmiepilaa
/- lz: what stands in a text already. No program in sight. -/
namespace Go.Proofs.Ytpbodonmiepilaa

/-- The i-th byte. -/
def byt (s : ByteArray) (i : Nat) : UInt8 := s.data.getD i 0
/-- How many bytes at two places are the same, at most so many. -/
def commN (s : ByteArray) : Nat → Nat → Nat → Nat
  | 0, _, _ => 0
  | f + 1, a, b => if b < s.size ∧ byt s a = byt s b then commN s f (a + 1) (b + 1) + 1 else 0
def comm (s : ByteArray) (a b : Nat) : Nat := commN s 258 a b
theorem commN_le (s : ByteArray) : ∀ f a b, commN s f a b ≤ f := by
  intro f
  induction f with
  | zero => intro a b; exact Nat.le_refl _
  | succ f ih =>
    intro a b
    unfold commN
    split
    · have := ih (a + 1) (b + 1); omega
    · omega
/-- It is known by what it is. -/
theorem commN_is (s : ByteArray) : ∀ f a b n, n ≤ f → (∀ j, j < n → b + j < s.size ∧ byt s (a + j) = byt s (b + j)) → (n = f ∨ ¬ (b + n < s.size ∧ byt s (a + n) = byt s (b + n))) → commN s f a b = n := by
  intro f
  induction f with
  | zero => intro a b n hn _ _; unfold commN; omega
  | succ f ih =>
    intro a b n hn h1 h2
    cases n with
    | zero =>
      unfold commN
      rw [if_neg (by rcases h2 with h | h; exact absurd h (by omega); simpa using h)]
    | succ n =>
      have h0 := h1 0 (by omega)
      unfold commN
      rw [if_pos (by simpa using h0), ih (a + 1) (b + 1) n (by omega) (fun j hj => ?_) ?_]
      · rcases h2 with h | h
        · exact .inl (by omega)
        · right
          rw [show a + 1 + n = a + (n + 1) by omega, show b + 1 + n = b + (n + 1) by omega]
          exact h
      · have := h1 (j + 1) (by omega)
        rw [show a + 1 + j = a + (j + 1) by omega, show b + 1 + j = b + (j + 1) by omega]
        exact this
theorem comm_is {s : ByteArray} {a b n : Nat} (hn : n ≤ 258) (h1 : ∀ j, j < n → b + j < s.size ∧ byt s (a + j) = byt s (b + j)) (h2 : n = 258 ∨ ¬ (b + n < s.size ∧ byt s (a + n) = byt s (b + n))) : comm s a b = n := commN_is s 258 a b n hn h1 h2
theorem commN_get (s : ByteArray) : ∀ f a b j, j < commN s f a b → b + j < s.size ∧ byt s (a + j) = byt s (b + j) := by
  intro f
  induction f with
  | zero => intro a b j hj; unfold commN at hj; omega
  | succ f ih =>
    intro a b j hj
    unfold commN at hj
    split at hj
    · next h =>
      cases j with
      | zero => simpa using h
      | succ j =>
        have := ih (a + 1) (b + 1) j (by omega)
        rw [show a + 1 + j = a + (j + 1) by omega, show b + 1 + j = b + (j + 1) by omega] at this
        exact this
    · omega
theorem comm_get {s : ByteArray} {a b j : Nat} (h : j < comm s a b) : b + j < s.size ∧ byt s (a + j) = byt s (b + j) := commN_get s 258 a b j h
theorem comm_le (s : ByteArray) (a b : Nat) : comm s a b ≤ 258 := commN_le s 258 a b

/-- The three bytes at a place. -/
def key3 (s : ByteArray) (i : Nat) : UInt8 × UInt8 × UInt8 := (byt s i, byt s (i + 1), byt s (i + 2))
/-- The latest place ahead of the n-th where three bytes stand, and one more; 0: there is none. -/
def prev (s : ByteArray) (k : UInt8 × UInt8 × UInt8) : Nat → Nat
  | 0 => 0
  | n + 1 => if n + 3 ≤ s.size ∧ key3 s n = k then n + 1 else prev s k n
/-- The longest, and how far back it is, of those up to so far back; the nearest of these. -/
def best (s : ByteArray) (at_ : Nat) : Nat → Nat × Nat
  | 0 => (0, 0)
  | d + 1 => if (best s at_ d).1 < comm s (at_ - (d + 1)) at_ then (comm s (at_ - (d + 1)) at_, d + 1) else best s at_ d
/-- What is long enough. -/
def trim (p : Nat × Nat) : Nat × Nat := if 3 ≤ p.1 then p else (0, 0)
/-- What has been looked at, when the next one to look at is p - 1. -/
def seen (s : ByteArray) (at_ p : Nat) : Nat × Nat := trim (best s at_ (min (at_ - p) 4096))
/-- What is found at a place. -/
def found (s : ByteArray) (at_ : Nat) : Nat × Nat := trim (best s at_ (min at_ 4096))
theorem best_far (s : ByteArray) (at_ : Nat) : ∀ d, (best s at_ d).2 ≤ d ∧ (0 < (best s at_ d).1 → 1 ≤ (best s at_ d).2 ∧ (best s at_ d).1 = comm s (at_ - (best s at_ d).2) at_) ∧ (best s at_ d).1 ≤ 258 := by
  intro d
  induction d with
  | zero => simp [best]
  | succ d ih =>
    rw [best]
    split
    · exact ⟨Nat.le_refl _, fun _ => ⟨by simp, rfl⟩, comm_le ..⟩
    · exact ⟨by omega, ih.2.1, ih.2.2⟩
end Go.Proofs.Ytpbodonmiepilaa
/- lz: a text's tokens, plainly. -/
namespace Go.Proofs.Ytpbodonmiepilaa

structure Tok where
  len : Int
  dist : Int
  lit : Int
deriving DecidableEq
def tcell (t : Tok) : List Value := [.int .i64 t.len, .int .i64 t.dist, .int .i64 t.lit]
def tval (t : Tok) : Value := .agg #[.int .i64 t.len, .int .i64 t.dist, .int .i64 t.lit]
theorem tcell_length (t : Tok) : (tcell t).length = 3 := rfl
theorem tcell_one (t : Tok) : ∀ u ∈ tcell t, u.oneCell' = true := by intro u hu; simp [tcell] at hu; rcases hu with rfl | rfl | rfl <;> rfl
/-- The token at a place. -/
def tokAt (s : ByteArray) (i : Nat) : Tok := if 3 ≤ (found s i).1 then ⟨(found s i).1, (found s i).2, 0⟩ else ⟨0, 0, (byt s i).toNat⟩
def stepAt (s : ByteArray) (i : Nat) : Nat := if 3 ≤ (found s i).1 then (found s i).1 else 1
/-- The tokens from a place on. -/
def parseN (s : ByteArray) : Nat → Nat → List Tok
  | 0, _ => []
  | f + 1, i => if i < s.size then tokAt s i :: parseN s f (i + stepAt s i) else []
def parse (s : ByteArray) : List Tok := parseN s s.size 0
theorem parseN_end {s : ByteArray} {f i : Nat} (h : s.size ≤ i) : parseN s f i = [] := by
  cases f with
  | zero => rfl
  | succ f => rw [parseN, if_neg (by omega)]
theorem found_is (s : ByteArray) (i : Nat) : found s i = best s i (min i 4096) ∧ 3 ≤ (found s i).1 ∨ found s i = (0, 0) := by
  unfold found trim
  split
  · next h => exact .inl ⟨rfl, h⟩
  · exact .inr rfl
theorem found_comm {s : ByteArray} {i : Nat} (h : 3 ≤ (found s i).1) : 1 ≤ (found s i).2 ∧ (found s i).2 ≤ i ∧ (found s i).2 ≤ 4096 ∧ (found s i).1 ≤ 258 ∧ (found s i).1 = comm s (i - (found s i).2) i := by
  rcases found_is s i with ⟨he, _⟩ | he
  · rw [he] at h ⊢
    have hb := best_far s i (min i 4096)
    have h2 := hb.2.1 (by omega)
    exact ⟨h2.1, by omega, by omega, hb.2.2, h2.2⟩
  · rw [he] at h; simp at h
theorem found_le {s : ByteArray} {i : Nat} (h : 3 ≤ (found s i).1) : i + (found s i).1 ≤ s.size := by
  have hc := (found_comm h).2.2.2.2
  have := comm_get (s := s) (a := i - (found s i).2) (b := i) (j := (found s i).1 - 1) (by omega)
  omega
theorem stepAt_pos (s : ByteArray) (i : Nat) : 1 ≤ stepAt s i := by unfold stepAt; split <;> omega
theorem stepAt_le {s : ByteArray} {i : Nat} (hi : i < s.size) : i + stepAt s i ≤ s.size := by
  unfold stepAt
  split
  · next h => exact found_le h
  · omega
end Go.Proofs.Ytpbodonmiepilaa
/- lz: the text of tokens, plainly. -/
namespace Go.Proofs.Ytpbodonmiepilaa

/-- May a token stand behind so many bytes? -/
def may (t : Tok) (n : Nat) : Bool :=
  if t.len = 0 then decide (t.dist = 0 ∧ 0 ≤ t.lit ∧ t.lit < 256) else decide (t.lit = 0 ∧ 3 ≤ t.len ∧ t.len ≤ 258 ∧ 1 ≤ t.dist ∧ t.dist ≤ 32768 ∧ t.dist ≤ n)
/-- So many bytes more, each as the one so far back. -/
def copyN (d : Nat) (out : List Int) : Nat → List Int
  | 0 => out
  | k + 1 => copyN d out k ++ [(copyN d out k).getD ((copyN d out k).length - d) 0]
inductive Res where
  | err (e : Nat)
  | ok (out : List Int)
/-- The text of tokens, behind some bytes. -/
def exp (most : Int) : List Tok → List Int → Res
  | [], out => .ok out
  | t :: l, out =>
    if may t out.length = false then .err 2
    else if IntKind.i64.wrap (most - out.length) < max t.len 1 then .err 12
    else if t.len = 0 then exp most l (out ++ [t.lit])
    else exp most l (copyN t.dist.toNat out t.len.toNat)
end Go.Proofs.Ytpbodonmiepilaa
/- inflate: unpacking, plainly. No program in sight. -/
namespace Go.Proofs.Ytpbodonmiepilaa

/-- What a part of unpacking yields: a value, and where the next bit stands; the bits ran out; a fault. -/
inductive Got (α : Type) where
  | ok (v : α) (n : Nat)
  | ran
  | bad (e : Int)
def Got.bind {α β : Type} (g : Got α) (f : α → Nat → Got β) : Got β := match g with
  | .ok v n => f v n
  | .ran => .ran
  | .bad e => .bad e
def takeG (bs : List Bool) (k n : Nat) : Got Int := if n + k ≤ bs.length then .ok (valOf ((bs.drop n).take k)) (n + k) else .ran
def symG (bs : List Bool) (L : List Int) (n : Nat) : Got Int :=
  if (decF L (bs.drop n)).2.1 = 0 then .ok (decF L (bs.drop n)).1 (n + (decF L (bs.drop n)).2.2)
  else if (decF L (bs.drop n)).2.2 < 15 then .ran else .bad 2
/-- A block of bytes. -/
def bytesAt (bs : List Bool) (n k : Nat) : List Int := bytesOf ((bs.drop n).take (8 * k))
def storedG (bs : List Bool) (most : Int) (out : List Int) (n0 : Nat) : Got (List Int) :=
  (takeG bs 16 (8 * nbytes n0)).bind fun a n1 => (takeG bs 16 n1).bind fun b n2 =>
    if a + b = 65535 then
      (if n2 + 8 * a.toNat ≤ bs.length then (if most - out.length < a then .bad 12 else .ok (out ++ bytesAt bs n2 a.toNat) (n2 + 8 * a.toNat)) else .ran)
    else .bad 2
/-- Lengths of lengths' codes, as they stand; as they are meant. -/
def lensG (bs : List Bool) : Nat → List Int → Nat → Got (List Int)
  | 0, xs, n => .ok xs n
  | k + 1, xs, n => (takeG bs 3 n).bind fun v n1 => lensG bs k (xs ++ [v]) n1
def ordN (i : Nat) : Nat := [16, 17, 18, 0, 8, 7, 9, 6, 10, 5, 11, 4, 12, 3, 13, 2, 14, 1, 15].getD i 0
def unordN (xs : List Int) : Nat → List Int
  | 0 => zerosF 19
  | k + 1 => (unordN xs k).set (ordN k) (xs.getD k 0)
def unordF (xs : List Int) : List Int := unordN xs 19
/-- Lengths of codes, up to N. -/
def lengthsG (bs : List Bool) (T : List Int) (N : Nat) (l : List Int) (n : Nat) : Got (List Int) :=
  if h : N ≤ l.length then .ok l n
  else (symG bs T n).bind fun c n1 =>
    if c < 16 then lengthsG bs T N (l ++ [c]) n1
    else if c = 16 then
      (if l.length = 0 then .bad 2
       else (takeG bs 2 n1).bind fun v n2 => if N < l.length + (3 + v.toNat) then .bad 2 else lengthsG bs T N (l ++ List.replicate (3 + v.toNat) (l.getD (l.length - 1) 0)) n2)
    else if c = 17 then (takeG bs 3 n1).bind fun v n2 => if N < l.length + (3 + v.toNat) then .bad 2 else lengthsG bs T N (l ++ List.replicate (3 + v.toNat) 0) n2
    else (takeG bs 7 n1).bind fun v n2 => if N < l.length + (11 + v.toNat) then .bad 2 else lengthsG bs T N (l ++ List.replicate (11 + v.toNat) 0) n2
termination_by N - l.length
decreasing_by all_goals (simp only [List.length_append, List.length_cons, List.length_nil, List.length_replicate]; omega)
/-- Both codes of a block that tells them. -/
def codesG (bs : List Bool) (n0 : Nat) : Got (List Int × List Int) :=
  (takeG bs 5 n0).bind fun a n1 => (takeG bs 5 n1).bind fun b n2 => (takeG bs 4 n2).bind fun c n3 =>
    if 29 < a ∨ 29 < b then .bad 2
    else (lensG bs (4 + c.toNat) [] n3).bind fun xs n4 =>
      if terrF (unordF xs) = 0 then
        (lengthsG bs (unordF xs) (257 + a.toNat + (1 + b.toNat)) [] n4).bind fun l n5 =>
          if l.getD 256 0 ≠ 0 ∧ terrF (l.take (257 + a.toNat)) = 0 ∧ terrF (l.drop (257 + a.toNat)) = 0 then .ok (l.take (257 + a.toNat), l.drop (257 + a.toNat)) n5 else .bad 2
      else .bad 2
def lenT0 (c : Nat) : Nat × Nat := lensT.getD (c - 257) (0, 0)
def distT0 (c : Nat) : Nat × Nat := distsT.getD c (0, 0)
/-- A token, or a block's end. -/
def tokG (bs : List Bool) (most : Int) (L D : List Int) (out : List Int) (n0 : Nat) : Got (Option (List Int)) :=
  (symG bs L n0).bind fun c n1 =>
    if c = 256 then .ok none n1
    else if c < 256 then (if most - out.length < 1 then .bad 12 else .ok (some (out ++ [c])) n1)
    else if 285 < c then .bad 2
    else (takeG bs (lenT0 c.toNat).2 n1).bind fun v n2 => (symG bs D n2).bind fun k n3 =>
      if 29 < k then .bad 2
      else (takeG bs (distT0 k.toNat).2 n3).bind fun u n4 =>
        if (out.length : Int) < (distT0 k.toNat).1 + u then .bad 2
        else if most - out.length < (lenT0 c.toNat).1 + v then .bad 12
        else .ok (some (copyN ((distT0 k.toNat).1 + u.toNat) out ((lenT0 c.toNat).1 + v.toNat))) n4

/-- Where unpacking stands: the next bit, what there is, the codes of the block it is in, whether that is the last. -/
structure Inf where
  n : Nat
  out : List Int
  tab : Option (List Int × List Int)
  last : Bool
def fixTab : List Int × List Int := (List.replicate 144 8 ++ List.replicate 112 9 ++ List.replicate 24 7 ++ List.replicate 8 8, List.replicate 32 5)
def headG (bs : List Bool) (most : Int) (st : Inf) : Got Inf :=
  (takeG bs 1 st.n).bind fun a n1 => (takeG bs 2 n1).bind fun k n2 =>
    if k = 0 then (storedG bs most st.out n2).bind fun o n3 => .ok ⟨n3, o, none, decide (a = 1)⟩ n3
    else if k = 1 then .ok ⟨n2, st.out, some fixTab, decide (a = 1)⟩ n2
    else if k = 2 then (codesG bs n2).bind fun t n3 => .ok ⟨n3, st.out, some t, decide (a = 1)⟩ n3
    else .bad 2
def stepG (bs : List Bool) (most : Int) (st : Inf) : Got Inf := match st.tab with
  | none => headG bs most st
  | some t => (tokG bs most t.1 t.2 st.out st.n).bind fun r n1 => match r with
    | none => .ok ⟨n1, st.out, none, st.last⟩ n1
    | some o => .ok ⟨n1, o, some t, st.last⟩ n1
def Inf.done (st : Inf) : Bool := st.last && st.tab.isNone
def Inf.init : Inf := ⟨0, [], none, false⟩
/-- The end: what there is, and where the next bit stands; or a fault (2: also where the bits ran out). -/
inductive Fin' where
  | ok (out : List Int) (n : Nat)
  | err (e : Int)
  | more
def runG (bs : List Bool) (most : Int) : Nat → Inf → Fin'
  | 0, _ => .more
  | f + 1, st => if st.done then .ok st.out st.n else match stepG bs most st with
    | .ok st' _ => runG bs most f st'
    | .ran => .err 2
    | .bad e => .err e

/-! ### where the next bit stands -/
structure Goes {α : Type} (bs : List Bool) (F : Got α) (n d : Nat) : Prop where
  le : ∀ v m, F = .ok v m → n + d ≤ m ∧ m ≤ bs.length
def inflF (bs : List Bool) (most : Int) : Fin' := runG bs most (bs.length + 1) Inf.init
/-! ### many steps -/
inductive Steps (bs : List Bool) (most : Int) : Inf → Inf → Prop where
  | refl (st : Inf) : Steps bs most st st
  | step {a b c : Inf} {m : Nat} : a.done = false → stepG bs most a = .ok b m → Steps bs most b c → Steps bs most a c
end Go.Proofs.Ytpbodonmiepilaa
/- What an int, a byte, a string are to the program. -/
namespace Go.Proofs.Ytpbodonmiepilaa
open Go.RowKit

theorem intInfo : (Try.prog.info? 3).map (fun i => (i.zero, i.size, i.bytes)) = some (some (.int .i64 0), 1, 8) := by kernel_rfl
theorem u8Info : (Try.prog.info? 5).map (fun i => (i.zero, i.size, i.bytes)) = some (some (.int .u8 0), 1, 1) := by kernel_rfl
end Go.Proofs.Ytpbodonmiepilaa
/- Bits: the writer's state; bit. (Picked out of others by tools/pick.py, as are all XBw, XBr.) -/
namespace Go.Proofs.Ytpbodonmiepilaa
open Go.RowKit

def u8s (xs : List Int) : List Value := xs.map (.int .u8)
/-- A writer of these bits, behind the pointer ⟨g, 0⟩. -/
def Wtr (g : Nat) (bs : List Bool) : Piece := ex fun v => star (blk g (.cells #[v, .int .i64 bs.length] 56)) (slc 5 1 v (nbytes bs.length) (u8s (bytesOf bs)))
theorem Own.wtr {w0 w : World} {ps : List Piece} {g : Nat} {bs : List Bool} (H : Own w0 w (Wtr g bs :: ps)) :
    ∃ a c, nbytes bs.length ≤ c ∧ c ≤ 9223372036854775807 ∧ Own w0 w (blk g (.cells #[.slice a (nbytes bs.length) c, .int .i64 bs.length] 56) :: slc 5 1 (.slice a (nbytes bs.length) c) (nbytes bs.length) (u8s (bytesOf bs)) :: ps) := by
  obtain ⟨v, H⟩ := H.ex
  replace H := H.star
  obtain ⟨a, c, rfl, h1, h2⟩ := (H.front 1 rfl).rd.shape
  exact ⟨a, c, h1, h2, H⟩
theorem Own.unwtr {w0 w : World} {ps : List Piece} {g : Nat} {bs : List Bool} {v : Value} {n m : Nat} {xs : List Value} (H : Own w0 w (blk g (.cells #[v, .int .i64 n] 56) :: slc 5 1 v m xs :: ps)) (hn : n = bs.length) (hm : m = nbytes bs.length) (hx : xs = u8s (bytesOf bs)) : Own w0 w (Wtr g bs :: ps) := by
  subst hn hm hx
  exact H.unstar.unex v
set_option maxHeartbeats 400000 in
theorem bit_any {w0 w : World} {ps : List Piece} {g : Nat} {bs : List Bool} (b : Bool) (H : Own w0 w (Wtr g bs :: ps)) (hl : bs.length ≤ 35184372088832) :
    Calls Try.prog 74 #[.pointer (some ⟨g, 0, none⟩), .int .i64 (bi b)] w (Ret fun _ w' => Own w0 w' (Wtr g (bs ++ [b]) :: ps)) := by
  have hb := bi_bd b
  obtain ⟨c, hcc⟩ : ∃ c, Hid (bi b = c) := ⟨_, rfl⟩
  rw [hcc.out] at hb ⊢
  obtain ⟨hb0, hb1⟩ := hb
  obtain ⟨m, hm⟩ : ∃ m, Hid (bs.length = m) := ⟨_, rfl⟩
  have hlm := hl
  rw [hm.out] at hlm
  obtain ⟨a, cp, hc1, hc2, H⟩ := H.wtr
  rw [hm.out] at H hc1
  have c0 := H.cells
  go_enter Try.func74, Try.ntmps74
  obtain ⟨r, hr⟩ : ∃ r, Hid (r = m % 8) := ⟨_, Lib.hid rfl⟩
  obtain ⟨q, hq⟩ : ∃ q, Hid (q = m / 8) := ⟨_, Lib.hid rfl⟩
  have hrt : (m : Int).tmod 8 = (r : Int) := by have := hr.out; rw [Int.tmod_eq_emod_of_nonneg (by omega)]; omega
  have hqt : (m : Int).tdiv 8 = (q : Int) := by have := hq.out; rw [Int.tdiv_eq_ediv_of_nonneg (by omega)]; omega
  have hrt' : (m : Int) % 8 = (r : Int) := by have := hr.out; omega
  have hqt' : (m : Int) / 8 = (q : Int) := by have := hq.out; omega
  have hr8 : r < 8 := by have := hr.out; omega
  have hsn := Lib.hid (bytesOf_snoc bs b)
  go_upto_if 9 with (fail)
  go_cut [] (fun wx => ∃ a c N L, N = nbytes (m + 1) ∧ N ≤ c ∧ c ≤ 9223372036854775807 ∧ Hid (L = if bs.length % 8 = 0 then bytesOf bs ++ [0] else bytesOf bs) ∧ Own w0 wx (blk g (.cells #[.slice a N c, .int .i64 m] 56) :: slc 5 1 (.slice a N c) N (u8s L) :: ps))
  case first =>
    by_cases h0 : r = 0
    · subst h0
      go_wp2_with (first
        | (at_builtin; refine wpList_append_one rfl _ _ rfl Try.underlying54 u8Info rfl (by decide) rfl H.swap rfl rfl rfl (by simp [Value.oneCell']) (by unfold nbytes; omega) (by unfold nbytes; omega) ?_; clear H c0; intro v' w' H; replace H := H.swap)
        | (obtain ⟨a', c', rfl, h1', h2'⟩ := (H.front 1 rfl).rd.shape; refine wpList_store_slice rfl _ _ rfl rfl H rfl (by kernel_rfl) (by simp) ?_; clear H; intro w2 H))
      go_meet
      exact ⟨a', c', nbytes m + 1, bytesOf bs ++ [0], by have := hr.out; unfold nbytes; omega, h1', h2', Lib.hid (by rw [if_pos (by have := hr.out; rw [hm.out]; omega)]), by simpa [u8s] using H⟩
    · have h0' : ((r : Int) == 0) = false := by simpa using h0
      go_wp2
      go_meet
      exact ⟨a, cp, nbytes m, bytesOf bs, by have := hr.out; unfold nbytes; omega, hc1, hc2, Lib.hid (by rw [if_neg (by have := hr.out; rw [hm.out]; omega)]), H⟩
  case rest =>
    clear H c0
    obtain ⟨a, cp, N, L, hN, hc1, hc2, hL, H⟩ := hcut
    obtain ⟨k1, k2, k3⟩ := hsn.out L hL.out
    rw [hm.out] at k1 k2 k3
    rw [← hq.out] at k2 k3
    rw [← hr.out] at k3
    have hqN : q < N := by have := hq.out; unfold nbytes at hN; omega
    have hqN' : (q : Int) < (N : Int) := by omega
    replace hN := Lib.hid hN
    have hwq : IntKind.i64.wrap (q : Int) = q := IntWalk.i64_in _ ⟨by omega, by omega⟩
    have hwr : IntKind.i64.wrap (r : Int) = r := IntWalk.i64_in _ ⟨by omega, by omega⟩
    have hx0 := (byteAt_bd bs q).1
    have hx1 := byteAt_bd' bs
    rw [hm.out, ← hq.out, ← hr.out] at hx1
    obtain ⟨x, hx⟩ : ∃ x, Hid (byteAt bs q = x) := ⟨_, rfl⟩
    rw [hx.out] at hx0 hx1 k2 k3
    have hlen : 0 < (u8s L).length := by have := hN.out; simp [u8s]; omega
    obtain ⟨g2, c', e, _, _, _, _, _, _⟩ := (H.front 1 rfl).at hlen
    cases e
    have hu : Hid ((u8s L)[q]? = some (.int .u8 x)) := Lib.hid (by simp [u8s, k2])
    have hor := or8 hr8 hx0 hx1 hb0 hb1
    obtain ⟨y, hy⟩ : ∃ y, Hid (x + 2 ^ r * c = y) := ⟨_, rfl⟩
    rw [hy.out] at hor
    go_upto_region 2 with (fail)
    refine wp_region_calm (fun w1 => Own w0 w1 (blk g (.cells #[.slice (some ⟨g2, 0, none⟩) N cp, .int .i64 m] 56) :: slc 5 1 (.slice (some ⟨g2, 0, none⟩) N cp) N (u8s L) :: ps)) 20 (by kernel_rfl) (by kernel_rfl) H.drew ?_
    simp only [List.take_succ_cons, List.take_zero, List.drop_succ_cons, List.drop_zero]
    repeat
      refine calm_value (v := ?_) (by decide) rfl (fun σ w1 hS => ?_) ?_; rotate_left
      · have c0 := hS.cells
        obtain ⟨_, _, e, _, _, _, _, c1, _⟩ := (hS.front 1 rfl).at hlen
        cases e
        replace c1 := c1 q _ hu.out
        first | (go_simp; rfl) | rfl
      simp only [Act.put, List.setIfInBounds_toArray, List.set_cons_zero, List.set_cons_succ]
    refine calm_nil ?_
    intro wd HD
    clear H
    go_wp2_with (first
      | (refine wpList_store_slc rfl _ _ rfl rfl HD.swap (.int .u8 y) rfl (by kernel_rfl) hqN rfl ?_; clear HD; intro w2 HD; replace HD := HD.swap; have c0 := HD.cells)
      | (refine wpList_store_int rfl _ _ rfl rfl HD rfl (by kernel_rfl) (by simp) ?_; clear HD c0; intro w3 HD))
    go_end0
    refine ⟨_, rfl, HD.unwtr (n := m + 1) ?_ ?_ ?_⟩
    · simp [hm.out]
    · have := hN.out; simp [hm.out]; exact this
    · rw [k3, hcc.out, hy.out]; simp [u8s]
end Go.Proofs.Ytpbodonmiepilaa
/- Bits: bytes as bits, plainly. No program in sight. -/
namespace Go.Proofs.Ytpbodonmiepilaa
open Go.RowKit

def cut (n : Int) : Nat := (min (max n 0) 62).toNat
/-- The k-th of what Code puts. -/
theorem codeBits_take (v : Int) (m k : Nat) (hk : k < m) : (bitsOf v m).reverse.take (k + 1) = (bitsOf v m).reverse.take k ++ [bitOf v (m - 1 - k)] := by
  rw [List.take_succ_eq_append_getElem (by simpa [bitsOf_length] using hk)]
  simp [bitsOf]
def byteNums (s : ByteArray) : List Int := s.data.toList.map fun b => (b.toNat : Int)
/-- Bits of bytes. -/
def bitsOfNums (ns : List Int) : List Bool := ns.flatMap (bitsOf · 8)
/-- What Text puts. -/
def textBits (s : ByteArray) : List Bool := bitsOfNums (byteNums s)
/-- The text that bits are. -/
def textOf (bs : List Bool) : ByteArray := strOfNums (bytesOf bs)
end Go.Proofs.Ytpbodonmiepilaa
/- bits, a reader: what is taken, plainly. No program in sight. -/
namespace Go.Proofs.Ytpbodonmiepilaa
open Go.RowKit

/-- What a taking answers, and how many bits are taken then. -/
def tkOk (s : ByteArray) (n : Nat) (m : Int) : Prop := 0 ≤ m ∧ m ≤ 62 ∧ m ≤ 8 * (s.size : Int) - n
instance (s : ByteArray) (n : Nat) (m : Int) : Decidable (tkOk s n m) := by unfold tkOk; infer_instance
def tkV (s : ByteArray) (n : Nat) (m : Int) : Int := if tkOk s n m then valOf (((textBits s).drop n).take m.toNat) else 0
def tkN (s : ByteArray) (n : Nat) (m : Int) : Nat := if tkOk s n m then n + m.toNat else n
def txOk (s : ByteArray) (n : Nat) (m : Int) : Prop := 0 ≤ m ∧ m ≤ (s.size : Int) - nbytes n
instance (s : ByteArray) (n : Nat) (m : Int) : Decidable (txOk s n m) := by unfold txOk; infer_instance
def txV (s : ByteArray) (n : Nat) (m : Int) : ByteArray := if txOk s n m then s.extract (nbytes n) (nbytes n + m.toNat) else ByteArray.empty
def txN (s : ByteArray) (n : Nat) (m : Int) : Nat := if txOk s n m then 8 * (nbytes n + m.toNat) else n
end Go.Proofs.Ytpbodonmiepilaa
/- lz: tokens that are read. No program in sight. -/
namespace Go.Proofs.Ytpbodonmiepilaa
open Go.RowKit

theorem tok_cells {w : World} {b o c i n : Nat} {l : List Tok} {t : Tok} (h : Rd w 3 (.slice (some ⟨b, o, none⟩) n c) n (rows tcell l)) (ht : l[i]? = some t) :
    w.cell? ⟨b, o + i * 3, none⟩ = some (.int .i64 t.len) ∧ w.cell? ⟨b, o + i * 3 + 1, none⟩ = some (.int .i64 t.dist) ∧ w.cell? ⟨b, o + i * 3 + 2, none⟩ = some (.int .i64 t.lit) := by
  have h0 := h.cell ((rows_get tcell tcell_length ht 0 (by omega)).trans rfl)
  have h1 := h.cell ((rows_get tcell tcell_length ht 1 (by omega)).trans rfl)
  have h2 := h.cell ((rows_get tcell tcell_length ht 2 (by omega)).trans rfl)
  exact ⟨h0, h1, h2⟩
def bcells (l : List Int) : List Value := l.map (.int .u8)
end Go.Proofs.Ytpbodonmiepilaa
/- flate: bounds of symbols. No program in sight. -/
namespace Go.Proofs.Ytpbodonmiepilaa
open Go.RowKit

theorem lenSym_bd_all : ∀ x : Fin 256, 257 ≤ (lenSym (x.1 + 3)).1 ∧ (lenSym (x.1 + 3)).1 ≤ 285 ∧ (lenSym (x.1 + 3)).2.1 ≤ 5 ∧ (lenSym (x.1 + 3)).2.2 < 2 ^ (lenSym (x.1 + 3)).2.1 := by decide +kernel
theorem lenSym_bd {n : Nat} (h : 3 ≤ n ∧ n ≤ 258) : 257 ≤ (lenSym n).1 ∧ (lenSym n).1 ≤ 285 ∧ (lenSym n).2.1 ≤ 5 ∧ (lenSym n).2.2 < 2 ^ (lenSym n).2.1 := by
  have := lenSym_bd_all ⟨n - 3, by omega⟩
  simpa [show n - 3 + 3 = n by omega] using this
def distBd (x : Nat) : Bool := decide ((distSym (x + 1)).1 ≤ 29 ∧ (distSym (x + 1)).2.1 ≤ 13 ∧ (distSym (x + 1)).2.2 < 2 ^ (distSym (x + 1)).2.1)
theorem distBd_chk : ∀ k : Fin 16, chk distBd 11 (2048 * k.1) = true := by decide +kernel
theorem distSym_bd {n : Nat} (h : 1 ≤ n ∧ n ≤ 32768) : (distSym n).1 ≤ 29 ∧ (distSym n).2.1 ≤ 13 ∧ (distSym n).2.2 < 2 ^ (distSym n).2.1 := by
  have h1 := distBd_chk ⟨(n - 1) / 2048, by omega⟩
  have := chk_all 11 _ h1 ((n - 1) % 2048) (by omega)
  rw [show 2048 * ((n - 1) / 2048) + (n - 1) % 2048 = n - 1 by omega] at this
  unfold distBd at this
  rw [show n - 1 + 1 = n by omega] at this
  exact of_decide_eq_true this
end Go.Proofs.Ytpbodonmiepilaa
/- flate: a block's bits, plainly. No program in sight. -/
namespace Go.Proofs.Ytpbodonmiepilaa

/-- A token's bits, by codes of lengths. -/
def tbits (L D : List Int) (t : Tok) : List Bool :=
  if t.len = 0 then cbits L t.lit.toNat
  else cbits L (lenSym t.len.toNat).1 ++ (bitsOf (lenSym t.len.toNat).2.2 (lenSym t.len.toNat).2.1 ++ (cbits D (distSym t.dist.toNat).1 ++ bitsOf (distSym t.dist.toNat).2.2 (distSym t.dist.toNat).2.1))
def toksB (L D : List Int) (l : List Tok) : List Bool := l.flatMap (tbits L D)
def bodyB (L D : List Int) (l : List Tok) : List Bool := toksB L D l ++ cbits L 256
/-- The fixed codes' lengths. -/
def fixL : List Int := List.replicate 144 8 ++ List.replicate 112 9 ++ List.replicate 24 7 ++ List.replicate 8 8
def fixD : List Int := List.replicate 32 5
def headB (last : Bool) (kind : Int) : List Bool := last :: bitsOf kind 2

/-- How often each symbol comes. -/
def litS (t : Tok) : Int := if t.len = 0 then t.lit else ((lenSym t.len.toNat).1 : Int)
def distS (t : Tok) : Int := ((distSym t.dist.toNat).1 : Int)
def litFq (l : List Tok) : List Int := bumpF ((zerosF 286).set 256 1) (l.map litS)
def distFq (l : List Tok) : List Int := bumpF (zerosF 30) ((l.filter fun t => decide (t.len ≠ 0)).map distS)
/-- Without the zeros behind the last one, at least so many. -/
def trimK (l : List Int) (least : Nat) : Nat → Nat
  | 0 => 0
  | k + 1 => if least < k + 1 ∧ l.getD k 0 = 0 then trimK l least k else k + 1
def trimF (l : List Int) (least : Nat) : List Int := l.take (trimK l least l.length)
/-- Lengths, as runs: symbol, how many bits more, these. -/
structure Run where
  sym : Int
  n : Int
  v : Int
def sameK (x : Int) : List Int → Nat
  | [] => 0
  | y :: t => if y = x then sameK x t + 1 else 0
def runsN : Nat → List Int → List Run
  | 0, _ => []
  | _ + 1, [] => []
  | f + 1, x :: t =>
    if x = 0 ∧ 10 < sameK x t + 1 then ⟨18, 7, (min (sameK x t + 1) 138 : Nat) - 11⟩ :: runsN f ((x :: t).drop (min (sameK x t + 1) 138))
    else if x = 0 ∧ 2 < sameK x t + 1 then ⟨17, 3, (sameK x t + 1 : Nat) - 3⟩ :: runsN f ((x :: t).drop (sameK x t + 1))
    else if 3 < sameK x t + 1 then ⟨x, 0, 0⟩ :: ⟨16, 2, (min (sameK x t + 1) 7 : Nat) - 4⟩ :: runsN f ((x :: t).drop (min (sameK x t + 1) 7))
    else ⟨x, 0, 0⟩ :: runsN f t
def runsF (l : List Int) : List Run := runsN l.length l
/-- The order in which the lengths of lengths' codes stand. -/
def ordF : List Nat := [16, 17, 18, 0, 8, 7, 9, 6, 10, 5, 11, 4, 12, 3, 13, 2, 14, 1, 15]
def richL (l : List Tok) : List Int := trimF (resF (litFq l) 15) 257
def richD (l : List Tok) : List Int := trimF (resF (distFq l) 15) 1
def richR (l : List Tok) : List Run := runsF (richL l ++ richD l)
def runFq (rs : List Run) : List Int := bumpF (zerosF 19) (rs.map Run.sym)
def runL (rs : List Run) : List Int := resF (runFq rs) 7
def sortedF (ls : List Int) : List Int := trimF (ordF.map fun s => ls.getD s 0) 4
def runB (ls : List Int) (r : Run) : List Bool := cbits ls r.sym.toNat ++ bitsOf r.v r.n.toNat
def runsB (ls : List Int) (rs : List Run) : List Bool := rs.flatMap (runB ls)
def lensB (l : List Int) : List Bool := l.flatMap fun n => bitsOf n 3
def sizesB (a b c : Nat) : List Bool := bitsOf ((a : Int) - 257) 5 ++ (bitsOf ((b : Int) - 1) 5 ++ bitsOf ((c : Int) - 4) 4)
/-- What stands behind a block's beginning. -/
def richB (l : List Tok) : List Bool :=
  sizesB (richL l).length (richD l).length (sortedF (runL (richR l))).length ++ (lensB (sortedF (runL (richR l))) ++ (runsB (runL (richR l)) (richR l) ++ bodyB (richL l) (richD l) l))
def blockB (l : List Tok) (kind : Int) (last : Bool) : List Bool := if kind = 1 then headB last 1 ++ bodyB fixL fixD l else headB last 2 ++ richB l
/-- A text as it is. -/
def storeB : Nat → ByteArray → List Bool → List Bool
  | 0, _, bs => bs
  | f + 1, t, bs => if t.size ≤ 65535
      then aligned (bs ++ headB true 0) ++ (bitsOf (t.size : Int) 16 ++ (bitsOf (65535 - (t.size : Int)) 16 ++ textBits t))
      else storeB f (t.extract 65535 t.size) (aligned (bs ++ headB false 0) ++ (bitsOf 65535 16 ++ (bitsOf 0 16 ++ textBits (t.extract 0 65535))))
def storeF (s : ByteArray) : List Bool := storeB (s.size + 1) s []

/-- What a token of a text may be. -/
def TokOk (t : Tok) : Prop := (t.len = 0 ∧ 0 ≤ t.lit ∧ t.lit < 256) ∨ (3 ≤ t.len ∧ t.len ≤ 258 ∧ 1 ≤ t.dist ∧ t.dist ≤ 32768)
theorem may_ok {t : Tok} {n : Nat} (h : may t n = true) : TokOk t := by
  unfold may at h
  unfold TokOk
  split at h
  · next h0 => have := of_decide_eq_true h; omega
  · have := of_decide_eq_true h; omega

/-! ### symbols -/

/-! ### how long -/
theorem flat_le {α : Type} {f : α → List Bool} {b : Nat} : ∀ (l : List α), (∀ x ∈ l, (f x).length ≤ b) → (l.flatMap f).length ≤ b * l.length
  | [], _ => by simp
  | x :: t, h => by
    have h1 := flat_le t fun y hy => h y (by simp [hy])
    have h2 := h x (by simp)
    rw [List.flatMap_cons, List.length_append, List.length_cons, Nat.mul_succ]
    omega
theorem getD_le {l : List Int} (hl : ∀ x ∈ l, 0 ≤ x ∧ x ≤ 15) (s : Nat) : 0 ≤ l.getD s 0 ∧ l.getD s 0 ≤ 15 := by
  by_cases h : s < l.length
  · exact hl _ (mem_getD2 h)
  · rw [List.getD_eq_getElem?_getD, List.getElem?_eq_none (by omega)]; simp
theorem cbits_le {l : List Int} (hl : ∀ x ∈ l, 0 ≤ x ∧ x ≤ 15) (s : Nat) : (cbits l s).length ≤ 15 := by
  rw [cbits_length]; have := getD_le hl s; omega
theorem tbits_le {L D : List Int} (hL : ∀ x ∈ L, 0 ≤ x ∧ x ≤ 15) (hD : ∀ x ∈ D, 0 ≤ x ∧ x ≤ 15) {t : Tok} (ht : TokOk t) : (tbits L D t).length ≤ 48 := by
  unfold tbits
  split
  · have := cbits_le hL t.lit.toNat; omega
  · next h =>
    have h1 := cbits_le hL (lenSym t.len.toNat).1
    have h2 := cbits_le hD (distSym t.dist.toNat).1
    have h3 : 3 ≤ t.len ∧ t.len ≤ 258 ∧ 1 ≤ t.dist ∧ t.dist ≤ 32768 := by rcases ht with h4 | h4 <;> omega
    have h4 := lenSym_bd (n := t.len.toNat) (by omega)
    have h5 := distSym_bd (n := t.dist.toNat) (by omega)
    rw [List.length_append, List.length_append, List.length_append, bitsOf_length, bitsOf_length]
    omega
theorem toksB_le {L D : List Int} (hL : ∀ x ∈ L, 0 ≤ x ∧ x ≤ 15) (hD : ∀ x ∈ D, 0 ≤ x ∧ x ≤ 15) {l : List Tok} (ht : ∀ t ∈ l, TokOk t) : (toksB L D l).length ≤ 48 * l.length :=
  flat_le l fun t h => tbits_le hL hD (ht t h)
theorem bodyB_le {L D : List Int} (hL : ∀ x ∈ L, 0 ≤ x ∧ x ≤ 15) (hD : ∀ x ∈ D, 0 ≤ x ∧ x ≤ 15) {l : List Tok} (ht : ∀ t ∈ l, TokOk t) : (bodyB L D l).length ≤ 48 * l.length + 15 := by
  have h1 := toksB_le hL hD ht
  have h2 := cbits_le hL 256
  unfold bodyB
  rw [List.length_append]
  omega
theorem fixL_ok : fixL.length = 288 ∧ cerrF fixL = 0 ∧ terrF fixL = 0 := by decide +kernel
theorem fixD_ok : fixD.length = 32 ∧ cerrF fixD = 0 ∧ terrF fixD = 0 := by decide +kernel
theorem fixL_bd : ∀ x ∈ fixL, 0 ≤ x ∧ x ≤ 15 := by decide +kernel
theorem fixD_bd : ∀ x ∈ fixD, 0 ≤ x ∧ x ≤ 15 := by decide +kernel
end Go.Proofs.Ytpbodonmiepilaa
/- inflate: what the walks know plainly. No program in sight. -/
namespace Go.Proofs.Ytpbodonmiepilaa
open Go.RowKit

/-- What a part of unpacking yields, said of a value, a place and a fault. -/
def GotR {α : Type} (g : Got α) (v : α) (n : Nat) (e : Int) : Prop := match g with
  | .ok v0 m => v = v0 ∧ n = m ∧ e = 0
  | .ran => e = 2
  | .bad e0 => e = e0
/-- Lengths that are a code's. -/
structure TabOk (l : List Int) : Prop where
  all : ∀ x ∈ l, 0 ≤ x ∧ x ≤ 15
  wt : sumF wtF l ≤ 2 ^ 15
  len : l.length ≤ 1000000
def lenG (bs : List Bool) (c : Int) (n : Nat) : Got Int := if 285 < c then .bad 2 else (takeG bs (lenT0 c.toNat).2 n).bind fun v m => .ok ((lenT0 c.toNat).1 + v) m
def distG (bs : List Bool) (k : Int) (n : Nat) : Got Int := if 29 < k then .bad 2 else (takeG bs (distT0 k.toNat).2 n).bind fun v m => .ok ((distT0 k.toNat).1 + v) m
/-- What is taken behind something that was told: the first fault stands. -/
def tkE (s : ByteArray) (n : Nat) (k : Int) (e : Int) : Int := if tkOk s n k then e else if e = 0 then 2 else e
/-- What is there, and what is amiss, behind a length again. -/
def agL (N : Nat) (l : List Int) (k : Nat) (x : Int) : List Int := if N < l.length + k then l else l ++ List.replicate k x
def agE (N : Nat) (l : List Int) (k : Nat) (e : Int) : Int := if N < l.length + k then (if e = 0 then 2 else e) else e
theorem nums_append (a b : List Int) : nums a ++ nums b = nums (a ++ b) := by unfold nums; rw [List.map_append]
/-- Where lengths stand: as they go on, or a fault. -/
def LSt (bs : List Bool) (G : Got (List Int)) (T : List Int) (N : Nat) (l : List Int) (n : Nat) (e : Int) : Prop := (e = 0 → lengthsG bs T N l n = G) ∧ (e ≠ 0 → ∀ v m, GotR G v m e)
/-- What a round leaves is less. -/
def lmeas (N : Nat) (u e : Value) : Nat := if intOf e = 0 then N + 1 - sliceLen u else 0
def tmeas (m : Nat) (u e : Value) : Nat := if intOf e = 0 then m + 1 - sliceLen u else 0
def imeas (z : Nat) (a e n : Value) : Nat := if intOf a = 0 ∧ intOf e = 0 then 8 * z + 1 - (intOf n).toNat else 0
end Go.Proofs.Ytpbodonmiepilaa
/- inflate: codes that are told, plainly: as they are taken. No program in sight. -/
namespace Go.Proofs.Ytpbodonmiepilaa

/-- What is behind the lengths of the lengths' codes. -/
def codesC (bs : List Bool) (a b : Int) (xs : List Int) (n4 : Nat) : Got (List Int × List Int) :=
  if terrF (unordF xs) = 0 then
    (lengthsG bs (unordF xs) (257 + a.toNat + (1 + b.toNat)) [] n4).bind fun l n5 =>
      if l.getD 256 0 ≠ 0 ∧ terrF (l.take (257 + a.toNat)) = 0 ∧ terrF (l.drop (257 + a.toNat)) = 0 then .ok (l.take (257 + a.toNat), l.drop (257 + a.toNat)) n5 else .bad 2
  else .bad 2
/-- Where codes that are told stand: the lengths' lengths, as they are laid, up to the k-th; or a fault. -/
def DSt (bs : List Bool) (G : Got (List Int × List Int)) (a b : Int) (c4 k : Nat) (xs X : List Int) (n : Nat) (e : Int) : Prop :=
  (e = 0 → xs.length = min k c4 ∧ X = unordF xs ∧ G = (lensG bs (c4 - k) xs n).bind (codesC bs a b)) ∧ (e ≠ 0 → ∀ v m, GotR G v m e)
end Go.Proofs.Ytpbodonmiepilaa
/- inflate: tokens, plainly: as they are taken. No program in sight. -/
namespace Go.Proofs.Ytpbodonmiepilaa

/-- Unpacking comes to a fault. -/
def Faults (bs : List Bool) (most : Int) (st : Inf) (e : Int) : Prop := ∃ b, Steps bs most st b ∧ b.done = false ∧ ((stepG bs most b = .ran ∧ e = 2) ∨ stepG bs most b = .bad e)
/-- Where a block of tokens stands. -/
def TokSt (bs : List Bool) (most : Int) (t : List Int × List Int) (last : Bool) (st0 : Inf) (out : List Int) (n : Nat) (e : Int) : Prop :=
  (e = 0 → Steps bs most st0 ⟨n, out, some t, last⟩) ∧ (e ≠ 0 → Faults bs most st0 e)
/-- .. behind it. -/
def TokEnd (bs : List Bool) (most : Int) (last : Bool) (st0 : Inf) (out : List Int) (n : Nat) (e : Int) : Prop :=
  (e = 0 → Steps bs most st0 ⟨n, out, none, last⟩) ∧ (e ≠ 0 → Faults bs most st0 e)
end Go.Proofs.Ytpbodonmiepilaa
/- inflate: blocks, plainly: as they are taken. No program in sight. -/
namespace Go.Proofs.Ytpbodonmiepilaa

/-- What unpacking answers. -/
def InfRes (bs : List Bool) (most : Int) (t : ByteArray) (u e : Int) : Prop := match inflF bs most with
  | .ok out n => t = strOfNums out ∧ u = nbytes n ∧ e = 0
  | .err e0 => t = ByteArray.empty ∧ u = 0 ∧ e = e0
  | .more => False
end Go.Proofs.Ytpbodonmiepilaa
/- flate: lengths that are made for tokens, plainly. No program in sight. -/
namespace Go.Proofs.Ytpbodonmiepilaa

theorem errF_ok {F : List Int} {L : Int} (hL : 1 ≤ L ∧ L ≤ 15) (hn : F.length ≤ 320) (hF : ∀ f ∈ F, 0 ≤ f ∧ f ≤ 4294967296) (hu : F.length ≤ 2 ^ L.toNat) : errF F L = 0 := by
  have hb : badArg F L = false := by
    unfold badArg anyBad
    simp only [Bool.or_eq_false_iff, decide_eq_false_iff_not, List.any_eq_false]
    refine ⟨⟨⟨by omega, by omega⟩, by omega⟩, fun f hf => ?_⟩
    have := hF f hf
    simp [badF]; omega
  unfold errF
  rw [hb]
  have h2 : (usedF F).length ≤ F.length := usedN_length F F.length
  rw [if_neg (by simp), if_neg (by omega)]
theorem mem_getD {F : List Int} {f : Int} (h : f ∈ F) : ∃ j, j < F.length ∧ F.getD j 0 = f := by
  obtain ⟨j, hj, rfl⟩ := List.getElem_of_mem h
  exact ⟨j, hj, by rw [List.getD_eq_getElem?_getD, List.getElem?_eq_getElem hj]; rfl⟩

/-! ### how often -/
theorem litFq_len (l : List Tok) : (litFq l).length = 286 := by unfold litFq; rw [bumpF_length, List.length_set]; exact List.length_replicate
theorem distFq_len (l : List Tok) : (distFq l).length = 30 := by unfold distFq; rw [bumpF_length]; exact List.length_replicate
theorem runFq_len (rs : List Run) : (runFq rs).length = 19 := by unfold runFq; rw [bumpF_length]; exact List.length_replicate
theorem litS_ok {t : Tok} (h : TokOk t) : ∃ s : Nat, litS t = s ∧ s < 286 := by
  unfold litS
  rcases h with h | h
  · rw [if_pos h.1]; exact ⟨t.lit.toNat, by omega, by omega⟩
  · rw [if_neg (by omega)]
    have := lenSym_bd (n := t.len.toNat) (by omega)
    exact ⟨_, rfl, by omega⟩
theorem distS_ok {t : Tok} (h : TokOk t) (h0 : t.len ≠ 0) : ∃ s : Nat, distS t = s ∧ s < 30 := by
  unfold distS
  rcases h with h | h
  · exact absurd h.1 h0
  · have := distSym_bd (n := t.dist.toNat) (by omega)
    exact ⟨_, rfl, by omega⟩
theorem count_pos {l : List Int} {x : Int} (h : x ∈ l) : 1 ≤ l.countP fun y => decide (y = x) := List.countP_pos_iff.2 ⟨x, h, by simp⟩
theorem lit0_get (j : Nat) : ((zerosF 286).set 256 1).getD j 0 = if j = 256 then 1 else 0 := by
  rw [List.getD_eq_getElem?_getD, List.getElem?_set]
  by_cases h : j = 256
  · subst h
    rw [if_pos rfl, if_pos rfl, if_pos (by unfold zerosF; rw [List.length_replicate]; omega)]; rfl
  · rw [if_neg (by omega), if_neg h]
    have := zeros_get 286 j
    rwa [List.getD_eq_getElem?_getD] at this
theorem litFq_get {l : List Tok} (hl : ∀ t ∈ l, TokOk t) (j : Nat) : (litFq l).getD j 0 = (if j = 256 then 1 else 0) + ((l.map litS).countP fun x => decide (x = (j : Int)) : Nat) := by
  unfold litFq
  rw [bumpF_get, lit0_get]
  intro x hx
  obtain ⟨t, ht, rfl⟩ := List.mem_map.1 hx
  obtain ⟨s, hs, h2⟩ := litS_ok (hl t ht)
  exact ⟨s, hs, by rw [List.length_set]; unfold zerosF; rw [List.length_replicate]; exact h2⟩
theorem distFq_get {l : List Tok} (hl : ∀ t ∈ l, TokOk t) (j : Nat) : (distFq l).getD j 0 = (((l.filter fun t => decide (t.len ≠ 0)).map distS).countP fun x => decide (x = (j : Int)) : Nat) := by
  unfold distFq
  rw [bumpF_get, zeros_get, Int.zero_add]
  intro x hx
  obtain ⟨t, ht, rfl⟩ := List.mem_map.1 hx
  obtain ⟨h1, h2⟩ := List.mem_filter.1 ht
  obtain ⟨s, hs, h3⟩ := distS_ok (hl t h1) (by simpa using h2)
  exact ⟨s, hs, by unfold zerosF; rw [List.length_replicate]; exact h3⟩
theorem litFq_bd {l : List Tok} (hl : ∀ t ∈ l, TokOk t) (hn : l.length ≤ 1000000) : ∀ f ∈ litFq l, 0 ≤ f ∧ f ≤ 4294967296 := fun f hf => by
  obtain ⟨j, _, rfl⟩ := mem_getD hf
  rw [litFq_get hl]
  have := List.countP_le_length (p := fun x : Int => decide (x = (j : Int))) (l := l.map litS)
  rw [List.length_map] at this
  split <;> omega
theorem distFq_bd {l : List Tok} (hl : ∀ t ∈ l, TokOk t) (hn : l.length ≤ 1000000) : ∀ f ∈ distFq l, 0 ≤ f ∧ f ≤ 4294967296 := fun f hf => by
  obtain ⟨j, _, rfl⟩ := mem_getD hf
  rw [distFq_get hl]
  have := List.countP_le_length (p := fun x : Int => decide (x = (j : Int))) (l := (l.filter fun t => decide (t.len ≠ 0)).map distS)
  have h2 := List.length_filter_le (fun t : Tok => decide (t.len ≠ 0)) l
  rw [List.length_map] at this
  omega

/-! ### without the zeros behind -/
theorem trimK_le' (l : List Int) (least : Nat) : ∀ k, trimK l least k ≤ k := by
  intro k
  induction k with
  | zero => exact Nat.le_refl _
  | succ k ih =>
    rw [trimK]
    split
    · omega
    · exact Nat.le_refl _
theorem trimK_ge (l : List Int) (least : Nat) : ∀ k, least ≤ k → least ≤ trimK l least k := by
  intro k
  induction k with
  | zero => intro h; exact h
  | succ k ih =>
    intro h
    rw [trimK]
    split
    · next h2 => exact ih (by omega)
    · exact h
theorem trimK_zero (l : List Int) (least : Nat) : ∀ k j, trimK l least k ≤ j → j < k → l.getD j 0 = 0 := by
  intro k
  induction k with
  | zero => intro j _ h; omega
  | succ k ih =>
    intro j h1 h2
    rw [trimK] at h1
    split at h1
    · next h3 =>
      rcases Nat.lt_or_ge j k with h4 | h4
      · exact ih j h1 h4
      · have : j = k := by omega
        subst this; exact h3.2
    · omega
theorem trimF_len (l : List Int) (least : Nat) : (trimF l least).length = trimK l least l.length := by
  unfold trimF
  rw [List.length_take]
  have := trimK_le' l least l.length
  omega
theorem trimF_getD (l : List Int) (least j : Nat) : (trimF l least).getD j 0 = l.getD j 0 := by
  unfold trimF
  rw [List.getD_eq_getElem?_getD, List.getElem?_take]
  split
  · rw [List.getD_eq_getElem?_getD]
  · next h =>
    rcases Nat.lt_or_ge j l.length with h2 | h2
    · rw [trimK_zero l least l.length j (by omega) h2]; rfl
    · rw [List.getD_eq_getElem?_getD, List.getElem?_eq_none h2]
theorem trimF_zeros (l : List Int) (least : Nat) : l = trimF l least ++ List.replicate (l.length - (trimF l least).length) 0 := by
  have hk := trimK_le' l least l.length
  have hl := trimF_len l least
  apply List.ext_getElem?
  intro j
  rw [List.getElem?_append]
  split
  · next h =>
    unfold trimF
    rw [List.getElem?_take, if_pos (by rw [← hl]; exact h)]
  · next h =>
    rw [List.getElem?_replicate]
    rcases Nat.lt_or_ge j l.length with h2 | h2
    · rw [if_pos (by omega), List.getElem?_eq_getElem h2]
      have := trimK_zero l least l.length j (by omega) h2
      rw [List.getD_eq_getElem?_getD, List.getElem?_eq_getElem h2] at this
      simpa using this
    · rw [if_neg (by omega), List.getElem?_eq_none h2]
theorem trimF_mem {l : List Int} {least : Nat} {x : Int} (h : x ∈ trimF l least) : x ∈ l := List.mem_of_mem_take h
theorem sum_zeros (f : Int → Int) (h : f 0 = 0) (n : Nat) : sumF f (List.replicate n 0) = 0 := by
  induction n with
  | zero => rfl
  | succ n ih => rw [List.replicate_succ, sumF_cons, ih, h]; rfl
theorem trimF_weight (l : List Int) (least : Nat) : sumF wtF (trimF l least) = sumF wtF l := by
  conv => rhs; rw [trimF_zeros l least, sumF_append, sum_zeros wtF (by unfold wtF; rw [if_neg (by omega)])]
  omega
theorem trimF_used (l : List Int) (least : Nat) : (usedF (trimF l least)).length = (usedF l).length := by
  have h : ∀ F : List Int, (usedF F).length = F.countP fun x => decide (0 < x) := fun F => by
    unfold usedF; rw [used_count F _ (Nat.le_refl _), List.take_length]
  rw [h, h]
  conv => rhs; rw [trimF_zeros l least, List.countP_append]
  rw [List.countP_replicate]
  simp
theorem trimF_may {l : List Int} (h : mayF l = true) (least : Nat) : mayF (trimF l least) = true := by
  have h1 := mayF_len h
  have h2 := trimF_len l least
  have h3 := trimK_le' l least l.length
  unfold mayF
  rw [decide_eq_true (by omega), Bool.true_and, List.all_eq_true]
  intro x hx
  have := h1.2 x (trimF_mem hx)
  simp [okLen]; omega
theorem trimF_terr {l : List Int} (h : terrF l = 0) (least : Nat) : terrF (trimF l least) = 0 := by
  have hm : mayF l = true := by
    unfold terrF at h
    by_cases hm : mayF l = true
    · exact hm
    · rw [if_neg hm] at h; omega
  unfold terrF at h ⊢
  rw [if_pos hm] at h
  rw [if_pos (trimF_may hm least), trimF_weight, trimF_used]
  exact h
theorem trimF_cerr {l : List Int} (h : cerrF l = 0) (least : Nat) : cerrF (trimF l least) = 0 := by
  have h1 := cerr_ok h
  have hm : mayF l = true := by
    unfold cerrF at h
    by_cases hm : mayF l = true
    · exact hm
    · rw [if_neg hm] at h; omega
  unfold cerrF
  rw [if_pos (trimF_may hm least), trimF_weight, if_pos h1.2.2]

/-! ### the codes made for tokens -/
theorem lit_ok {l : List Tok} (hl : ∀ t ∈ l, TokOk t) (hn : l.length ≤ 1000000) : LenOk (litFq l) 15 (resF (litFq l) 15) :=
  len_ok (errF_ok (by omega) (by rw [litFq_len]; omega) (litFq_bd hl hn) (by rw [litFq_len]; decide))
theorem dist_ok {l : List Tok} (hl : ∀ t ∈ l, TokOk t) (hn : l.length ≤ 1000000) : LenOk (distFq l) 15 (resF (distFq l) 15) :=
  len_ok (errF_ok (by omega) (by rw [distFq_len]; omega) (distFq_bd hl hn) (by rw [distFq_len]; decide))
/-- What is so of lengths that are made. -/
structure Made (L : List Int) (lo hi : Nat) : Prop where
  lo : lo ≤ L.length
  hi : L.length ≤ hi
  all : ∀ x ∈ L, 0 ≤ x ∧ x ≤ 15
  cerr : cerrF L = 0
  terr : terrF L = 0
theorem Made.wt {L : List Int} {lo hi : Nat} (h : Made L lo hi) : sumF wtF L ≤ 2 ^ 15 := (cerr_ok h.cerr).2.2
theorem made_trim {F : List Int} {lo hi : Nat} {lim : Int} (h : LenOk F lim (resF F lim)) (hF : F.length = hi) (hlo : lo ≤ hi) : Made (trimF (resF F lim) lo) lo hi := by
  have hc := h.cod
  have hlen := h.len
  refine ⟨?_, ?_, fun x hx => h.all x (trimF_mem hx), trimF_cerr hc.1 lo, trimF_terr hc.2.1 lo⟩
  · rw [trimF_len]; exact trimK_ge _ _ _ (by omega)
  · rw [trimF_len]; have := trimK_le' (resF F lim) lo (resF F lim).length; omega
theorem richL_made {l : List Tok} (hl : ∀ t ∈ l, TokOk t) (hn : l.length ≤ 1000000) : Made (richL l) 257 286 := made_trim (lit_ok hl hn) (litFq_len l) (by omega)
theorem richD_made {l : List Tok} (hl : ∀ t ∈ l, TokOk t) (hn : l.length ≤ 1000000) : Made (richD l) 1 30 := made_trim (dist_ok hl hn) (distFq_len l) (by omega)
theorem pos_lt {L : List Int} {s : Nat} (h : 0 < L.getD s 0) : s < L.length := by
  rcases Nat.lt_or_ge s L.length with h1 | h1
  · exact h1
  · rw [List.getD_eq_getElem?_getD, List.getElem?_eq_none h1] at h; simp at h
theorem richL_pos {l : List Tok} (hl : ∀ t ∈ l, TokOk t) (hn : l.length ≤ 1000000) {s : Nat} (hs : s < 286) (hp : 0 < (litFq l).getD s 0) : 0 < (richL l).getD s 0 := by
  unfold richL
  rw [trimF_getD]
  have := (lit_ok hl hn).get s (by rw [litFq_len]; exact hs)
  omega
theorem richL_lit {l : List Tok} (hl : ∀ t ∈ l, TokOk t) (hn : l.length ≤ 1000000) {t : Tok} (ht : t ∈ l) : 0 < (richL l).getD (litS t).toNat 0 := by
  obtain ⟨s, hs, h2⟩ := litS_ok (hl t ht)
  rw [hs, Int.toNat_natCast]
  refine richL_pos hl hn h2 ?_
  rw [litFq_get hl]
  have := count_pos (List.mem_map.2 ⟨t, ht, hs⟩)
  split <;> omega
theorem richD_dist {l : List Tok} (hl : ∀ t ∈ l, TokOk t) (hn : l.length ≤ 1000000) {t : Tok} (ht : t ∈ l) (h0 : t.len ≠ 0) : 0 < (richD l).getD (distS t).toNat 0 := by
  obtain ⟨s, hs, h2⟩ := distS_ok (hl t ht) h0
  rw [hs, Int.toNat_natCast]
  unfold richD
  rw [trimF_getD]
  have h1 := (dist_ok hl hn).get s (by rw [distFq_len]; exact h2)
  have h3 : 0 < (distFq l).getD s 0 := by
    rw [distFq_get hl]
    have := count_pos (l := (l.filter fun t => decide (t.len ≠ 0)).map distS) (x := (s : Int)) (List.mem_map.2 ⟨t, List.mem_filter.2 ⟨ht, decide_eq_true h0⟩, hs⟩)
    omega
  omega
/-- The symbols of a token have codes. -/
def SymOk' (L D : List Int) (t : Tok) : Prop := TokOk t ∧ (t.len = 0 → t.lit.toNat < L.length) ∧ (t.len ≠ 0 → (lenSym t.len.toNat).1 < L.length ∧ (distSym t.dist.toNat).1 < D.length)
theorem rich_sym {l : List Tok} (hl : ∀ t ∈ l, TokOk t) (hn : l.length ≤ 1000000) {t : Tok} (ht : t ∈ l) : SymOk' (richL l) (richD l) t := by
  refine ⟨hl t ht, fun h0 => ?_, fun h0 => ?_⟩
  · have := pos_lt (richL_lit hl hn ht)
    unfold litS at this
    rw [if_pos h0] at this
    exact this
  · have h1 := pos_lt (richL_lit hl hn ht)
    have h2 := pos_lt (richD_dist hl hn ht h0)
    unfold litS at h1
    unfold distS at h2
    rw [if_neg h0] at h1
    exact ⟨by simpa using h1, by simpa using h2⟩

/-! ### runs -/
structure RunOk (r : Run) : Prop where
  sym : 0 ≤ r.sym ∧ r.sym < 19
  n : 0 ≤ r.n ∧ r.n ≤ 7
  v : 0 ≤ r.v ∧ r.v < 2 ^ r.n.toNat
theorem runs_ok : ∀ (f : Nat) (l : List Int), (∀ x ∈ l, 0 ≤ x ∧ x ≤ 15) → ∀ r ∈ runsN f l, RunOk r := by
  intro f
  induction f with
  | zero => intro l _ r h; simp [runsN] at h
  | succ f ih =>
    intro l hl r h
    cases l with
    | nil => simp [runsN] at h
    | cons x t =>
      have hx := hl x (by simp)
      have ht : ∀ y ∈ t, 0 ≤ y ∧ y ≤ 15 := fun y hy => hl y (by simp [hy])
      have hd : ∀ j, ∀ y ∈ (x :: t).drop j, 0 ≤ y ∧ y ≤ 15 := fun j y hy => hl y (List.mem_of_mem_drop hy)
      have h128 : (2 : Int) ^ (7 : Int).toNat = 128 := rfl
      have h8 : (2 : Int) ^ (3 : Int).toNat = 8 := rfl
      have h4 : (2 : Int) ^ (2 : Int).toNat = 4 := rfl
      have h1 : (2 : Int) ^ (0 : Int).toNat = 1 := rfl
      rw [runsN] at h
      split at h
      · next hc =>
        rcases List.mem_cons.1 h with rfl | h
        · exact ⟨by simp, by simp, by simp only; rw [h128]; omega⟩
        · exact ih _ (hd _) r h
      · next hc1 =>
        split at h
        · next hc =>
          have hle : sameK x t + 1 ≤ 10 := by
            rcases Nat.lt_or_ge 10 (sameK x t + 1) with h9 | h9
            · exact absurd ⟨hc.1, h9⟩ hc1
            · exact h9
          rcases List.mem_cons.1 h with rfl | h
          · exact ⟨by simp, by simp, by simp only; rw [h8]; omega⟩
          · exact ih _ (hd _) r h
        · split at h
          · next hc =>
            rcases List.mem_cons.1 h with rfl | h
            · exact ⟨by simp only; omega, by simp, by simp only; rw [h1]; omega⟩
            · rcases List.mem_cons.1 h with rfl | h
              · exact ⟨by simp, by simp, by simp only; rw [h4]; omega⟩
              · exact ih _ (hd _) r h
          · rcases List.mem_cons.1 h with rfl | h
            · exact ⟨by simp only; omega, by simp, by simp only; rw [h1]; omega⟩
            · exact ih _ ht r h
theorem runs_len : ∀ (f : Nat) (l : List Int), (runsN f l).length ≤ 2 * f := by
  intro f
  induction f with
  | zero => intro l; simp [runsN]
  | succ f ih =>
    intro l
    cases l with
    | nil => simp [runsN]
    | cons x t =>
      rw [runsN]
      split
      · have := ih ((x :: t).drop (min (sameK x t + 1) 138)); simp only [List.length_cons]; omega
      · split
        · have := ih ((x :: t).drop (sameK x t + 1)); simp only [List.length_cons]; omega
        · split
          · have := ih ((x :: t).drop (min (sameK x t + 1) 7)); simp only [List.length_cons]; omega
          · have := ih t; simp only [List.length_cons]; omega
theorem richR_ok {l : List Tok} (hl : ∀ t ∈ l, TokOk t) (hn : l.length ≤ 1000000) : ∀ r ∈ richR l, RunOk r := by
  have h1 := richL_made hl hn
  have h2 := richD_made hl hn
  exact runs_ok _ _ fun x hx => by
    rcases List.mem_append.1 hx with h | h
    · exact h1.all x h
    · exact h2.all x h
theorem richR_len {l : List Tok} (hl : ∀ t ∈ l, TokOk t) (hn : l.length ≤ 1000000) : (richR l).length ≤ 632 := by
  have h1 := (richL_made hl hn).hi
  have h2 := (richD_made hl hn).hi
  have := runs_len (richL l ++ richD l).length (richL l ++ richD l)
  rw [List.length_append] at this
  unfold richR runsF
  rw [List.length_append]
  omega
theorem runFq_get {rs : List Run} (hr : ∀ r ∈ rs, RunOk r) (j : Nat) : (runFq rs).getD j 0 = ((rs.map Run.sym).countP fun x => decide (x = (j : Int)) : Nat) := by
  unfold runFq
  rw [bumpF_get, zeros_get, Int.zero_add]
  intro x hx
  obtain ⟨r, h1, rfl⟩ := List.mem_map.1 hx
  have := (hr r h1).sym
  exact ⟨r.sym.toNat, by omega, by unfold zerosF; rw [List.length_replicate]; omega⟩
theorem run_ok {rs : List Run} (hr : ∀ r ∈ rs, RunOk r) (hn : rs.length ≤ 1000000) : LenOk (runFq rs) 7 (resF (runFq rs) 7) := by
  refine len_ok (errF_ok (by omega) (by rw [runFq_len]; omega) (fun f hf => ?_) (by rw [runFq_len]; decide))
  obtain ⟨j, _, rfl⟩ := mem_getD hf
  rw [runFq_get hr]
  have := List.countP_le_length (p := fun x : Int => decide (x = (j : Int))) (l := rs.map Run.sym)
  rw [List.length_map] at this
  omega
theorem runL_len {rs : List Run} (hr : ∀ r ∈ rs, RunOk r) (hn : rs.length ≤ 1000000) : (runL rs).length = 19 := by
  rw [← runFq_len rs]; exact (run_ok hr hn).len
theorem runL_made {rs : List Run} (hr : ∀ r ∈ rs, RunOk r) (hn : rs.length ≤ 1000000) : Made (runL rs) 19 19 := by
  have h := run_ok hr hn
  have hc := h.cod
  have hl := runL_len hr hn
  exact ⟨by omega, by omega, h.all, hc.1, hc.2.1⟩
theorem runL_7 {rs : List Run} (hr : ∀ r ∈ rs, RunOk r) (hn : rs.length ≤ 1000000) (j : Nat) : 0 ≤ (runL rs).getD j 0 ∧ (runL rs).getD j 0 ≤ 7 := by
  rcases Nat.lt_or_ge j 19 with h | h
  · have := (run_ok hr hn).get j (by rw [runFq_len]; exact h)
    unfold runL
    omega
  · rw [List.getD_eq_getElem?_getD, List.getElem?_eq_none (by rw [runL_len hr hn]; exact h)]; simp
theorem runL_pos {rs : List Run} (hr : ∀ r ∈ rs, RunOk r) (hn : rs.length ≤ 1000000) {r : Run} (h : r ∈ rs) : 0 < (runL rs).getD r.sym.toNat 0 := by
  have h1 := (run_ok hr hn).get r.sym.toNat (by rw [runFq_len]; have := (hr r h).sym; omega)
  have h3 : 0 < (runFq rs).getD r.sym.toNat 0 := by
    rw [runFq_get hr]
    have := count_pos (l := rs.map Run.sym) (x := (r.sym.toNat : Int)) (List.mem_map.2 ⟨r, h, by have := (hr r h).sym; omega⟩)
    omega
  unfold runL
  omega
theorem sorted_len (ls : List Int) : 4 ≤ (sortedF ls).length ∧ (sortedF ls).length ≤ 19 := by
  unfold sortedF
  rw [trimF_len]
  have h1 := trimK_ge (ordF.map fun s => ls.getD s 0) 4 (ordF.map fun s => ls.getD s 0).length (by rw [List.length_map]; decide)
  have h2 := trimK_le' (ordF.map fun s => ls.getD s 0) 4 (ordF.map fun s => ls.getD s 0).length
  rw [List.length_map] at h1 h2 ⊢
  exact ⟨h1, h2⟩
theorem sorted_7 {rs : List Run} (hr : ∀ r ∈ rs, RunOk r) (hn : rs.length ≤ 1000000) : ∀ x ∈ sortedF (runL rs), 0 ≤ x ∧ x ≤ 7 := fun x hx => by
  obtain ⟨s, _, rfl⟩ := List.mem_map.1 (trimF_mem hx)
  exact runL_7 hr hn s
end Go.Proofs.Ytpbodonmiepilaa
/- flate: the document's tables, plainly. No program in sight. -/
namespace Go.Proofs.Ytpbodonmiepilaa

/-- The last of the first k that is not above. -/
def lastI (T : List (Nat × Nat)) (n : Nat) : Nat → Nat
  | 0 => 0
  | k + 1 => if (T.getD k (0, 0)).1 ≤ n then k else lastI T n k
def fsts (T : List (Nat × Nat)) : List Int := T.map fun p => (p.1 : Int)
def snds (T : List (Nat × Nat)) : List Int := T.map fun p => (p.2 : Int)
def lenF (i : Nat) : Nat := [3, 4, 5, 6, 7, 8, 9, 10, 11, 13, 15, 17, 19, 23, 27, 31, 35, 43, 51, 59, 67, 83, 99, 115, 131, 163, 195, 227, 259].getD i 0
def lenM (i : Nat) : Nat := (lensT.getD i (0, 0)).2
def disF (i : Nat) : Nat := [1, 2, 3, 4, 5, 7, 9, 13, 17, 25, 33, 49, 65, 97, 129, 193, 257, 385, 513, 769, 1025, 1537, 2049, 3073, 4097, 6145, 8193, 12289, 16385, 24577, 32769].getD i 0
def disM (i : Nat) : Nat := (distsT.getD i (0, 0)).2
def lenFs (k : Nat) : List Int := (fsts lensT).take k
def lenMs (k : Nat) : List Int := (snds lensT).take k
def disFs (k : Nat) : List Int := (fsts distsT).take k
def disMs (k : Nat) : List Int := (snds distsT).take k
end Go.Proofs.Ytpbodonmiepilaa
/- lz: what is parsed is expanded as it was; what a token tells; a text of one byte. No program in sight. -/
namespace Go.Proofs.Ytpbodonmiepilaa
open Go.RowKit

/-- The first bytes. -/
def bnum (s : ByteArray) (i : Nat) : List Int := (List.range i).map fun j => ((byt s j).toNat : Int)
theorem tokAt_may {s : ByteArray} {i : Nat} : may (tokAt s i) i = true := by
  unfold tokAt
  split
  · next h =>
    have hc := found_comm h
    unfold may
    rw [if_neg (by simp only; omega)]
    simp only [decide_eq_true_eq]
    refine ⟨trivial, ?_⟩
    omega
  · unfold may
    rw [if_pos rfl]
    have := (byt s i).toNat_lt
    simp only [decide_eq_true_eq]
    refine ⟨trivial, ?_⟩
    omega
/-! ### no byte stands by itself where three stood -/
/-! ### a text of one byte -/
/-- How many tokens a rest has. -/
def runs (r : Nat) : Nat := r / 258 + if 2 < r % 258 then 1 else r % 258
end Go.Proofs.Ytpbodonmiepilaa
/- inflate: what is packed in blocks is unpacked, plainly. No program in sight. -/
namespace Go.Proofs.Ytpbodonmiepilaa

/-- What stands from a bit on. -/
def At (bs : List Bool) (n : Nat) (x : List Bool) : Prop := n ≤ bs.length ∧ bs.drop n = x
/-- Lengths that are a table's. -/
structure Cod (L : List Int) : Prop where
  all : ∀ x ∈ L, 0 ≤ x ∧ x ≤ 15
  wt : sumF wtF L ≤ 2 ^ 15
/-! ### tokens -/
def outTok (out : List Int) (t : Tok) : List Int := if t.len = 0 then out ++ [t.lit] else copyN t.dist.toNat out t.len.toNat
/-- The symbols of a token have codes. -/
def SymPos (L D : List Int) (t : Tok) : Prop := (t.len = 0 → 0 < L.getD t.lit.toNat 0) ∧ (t.len ≠ 0 → 0 < L.getD (lenSym t.len.toNat).1 0 ∧ 0 < D.getD (distSym t.dist.toNat).1 0)
/-! ### codes that are told -/
end Go.Proofs.Ytpbodonmiepilaa
/- flate: what is written, as a text, plainly. No program in sight. -/
namespace Go.Proofs.Ytpbodonmiepilaa
open Go.RowKit

/-- What stands behind the first bit. -/
def blockR (l : List Tok) (kind : Int) : List Bool := (blockB l kind true).drop 1
end Go.Proofs.Ytpbodonmiepilaa
/- inflate: blocks are unpacked, plainly. No program in sight. -/
namespace Go.Proofs.Ytpbodonmiepilaa

/-! ### bytes -/
/-- A block of bytes, at a bit. -/
def storedB (last : Bool) (t : ByteArray) (n : Nat) : List Bool := headB last 0 ++ (List.replicate (padN (n + 3)) false ++ (bitsOf (t.size : Int) 16 ++ (bitsOf (65535 - (t.size : Int)) 16 ++ textBits t)))
/-! ### texts -/
end Go.Proofs.Ytpbodonmiepilaa
/- inflate: of less bits, with a lower limit, plainly. No program in sight. -/
namespace Go.Proofs.Ytpbodonmiepilaa

/-- Of the first m bits: the same, or they run out. -/
def CutOk {α : Type} (g g' : Got α) (m : Nat) : Prop := ∀ v n', g = .ok v n' → (n' ≤ m → g' = .ok v n') ∧ (m < n' → g' = .ran)
end Go.Proofs.Ytpbodonmiepilaa
/- inflate: a lower limit, and bytes that are cut off, plainly. No program in sight. -/
namespace Go.Proofs.Ytpbodonmiepilaa

/-- With a lower limit: the same if it fits, or a fault. -/
def LimOk {α : Type} (len : α → Nat) (most' : Int) (g g' : Got α) : Prop := ∀ v n, g = .ok v n → ((len v : Int) ≤ most' → g' = .ok v n) ∧ (most' < len v → g' = .bad 12)
def lenO (n : Nat) : Option (List Int) → Nat
  | none => n
  | some o => o.length
end Go.Proofs.Ytpbodonmiepilaa
/- An array of ints by value, read at an index. -/
namespace Go.Proofs.Ytpbodonmiepilaa
open Go.RowKit

/-- 'a[i]' of an array of ints by value. -/
theorem run_index_arr {P : Program} (t e : TypeId) (n : Nat) (cs : Array Value) (i : Nat) (v : Int) (w : World) (h : P.underlying t = some (.array n e)) (hsz : ∀ w, (sizeOf e).run P w = .ok 1 w) (hag : ∀ w, (isAgg e).run P w = .ok false w) (hi : i < n) (hv : cs[i]? = some (.int .i64 v)) :
    (Instr.index t (.agg cs) (.int .i64 i)).run P w = .ok (.int .i64 v) w := by
  have hn : (0 : Int) ≤ (i : Int) ∧ (i : Int) < (n : Int) := by omega
  simp [Instr.index, run_underlying h, asIntOf, hn, go_sem]
  rw [if_pos hi]
  simp [hsz, hag, hv, Result.andThen]
theorem int_one (w : World) : (sizeOf 3).run Try.prog w = .ok 1 w ∧ (isAgg 3).run Try.prog w = .ok false w := by
  constructor <;> go_simp
end Go.Proofs.Ytpbodonmiepilaa
/- flate: the walks of what tells symbols. -/
namespace Go.Proofs.Ytpbodonmiepilaa
open Go.RowKit

/-- A number below 2^20 has fewer than 20 bits more. -/
theorem ex_stop {st n e : Nat} (hn : n < 1048576) (he : 2 ^ (st + 1) ≤ n / 2 ^ e) : e < 20 := by
  rcases Nat.lt_or_ge e 20 with h | h
  · exact h
  · have h1 : 2 ^ 20 ≤ 2 ^ e := Nat.pow_le_pow_right (by omega) h
    have : n / 2 ^ e = 0 := Nat.div_eq_of_lt (by have : (2 : Nat) ^ 20 = 1048576 := rfl; omega)
    have h2 : 0 < 2 ^ (st + 1) := Nat.pow_pos (by omega)
    omega

theorem len_sym_le : ∀ x : Fin 256, (lenSym (x.1 + 3)).1 ≤ 285 := by decide +kernel

set_option maxRecDepth 100000 in
theorem band_any (n st : Nat) (hn : n < 1048576) (hst : st = 1 ∨ st = 2) (w : World) :
    Calls Try.prog 78 #[.int .i64 n, .int .i64 st] w (Ret fun r w' => r = .tuple #[.int .i64 (bandF st n).1, .int .i64 (bandF st n).2.1, .int .i64 (bandF st n).2.2] ∧ Own w w' []) := by
  have H := Own.start w
  obtain ⟨x, hx⟩ : ∃ x, Hid (exF st n = x) := ⟨_, rfl⟩
  obtain ⟨b1, b2, b3, hB⟩ : ∃ b1 b2 b3, Hid (bandF st n = (b1, b2, b3)) := ⟨_, _, _, rfl⟩
  have hP : Hid (b1 = x * 2 ^ st + n / 2 ^ x ∧ b2 = x ∧ b3 = n % 2 ^ x) := Lib.hid (by have h := hB.out; unfold bandF at h; rw [hx.out] at h; simp only [Prod.mk.injEq] at h; exact ⟨h.1.symm, h.2.1.symm, h.2.2.symm⟩)
  rw [hB.out]
  obtain ⟨c, hc⟩ : ∃ c : Int, Hid ((2 : Int) * 2 ^ st = c) := ⟨_, rfl⟩
  have hcw : IntKind.i64.wrap ((2 : Int) * 2 ^ st) = c := by rw [hc.out, ← hc.out]; rcases hst with rfl | rfl <;> rfl
  have hcn : Hid (c = ((2 ^ (st + 1) : Nat) : Int)) := Lib.hid (by rw [← hc.out]; rcases hst with rfl | rfl <;> rfl)
  have hst1 : (st : Int) < 64 := by omega
  have hst0 : ¬ (st : Int) < 0 := by omega
  go_enter Try.func78, Try.ntmps78
  go_wp2_with fail
  go_loopw [7] (fun s7 wx => ∃ e : Nat, s7 = .int .i64 e ∧ e ≤ 20 ∧ Hid (exN st n (64 - e) e = x) ∧ Own w wx []) (fun s7 _ => 20 - (intOf s7).toNat)
  case atStart => exact ⟨0, by go_num, by omega, Lib.hid hx.out, H⟩
  case round =>
    clear H
    obtain ⟨e, rfl, he, hex, H⟩ := hrel
    obtain ⟨q, hq⟩ : ∃ q : Nat, Hid (n / 2 ^ e = q) := ⟨_, rfl⟩
    have hqi : (n : Int) / 2 ^ e = (q : Int) := by
      rw [← hq.out, Int.natCast_ediv, Int.natCast_pow]; rfl
    have heI : (e : Int) < 64 := by omega
    go_upto_region 2 with (fail)
    refine wp_region_calm (fun w1 => Own w w1 []) 5 (by kernel_rfl) (by kernel_rfl) H.drew ?_
    simp only [List.take_succ_cons, List.take_zero, List.drop_succ_cons, List.drop_zero]
    repeat
      first
      | (refine calm_value (v := ?_) (by decide) rfl (fun σ w1 hS => ?_) ?_
         rotate_left
         · skip
           first | (go_simp; rfl) | rfl
         simp only [Act.put, List.setIfInBounds_toArray, List.set_cons_zero, List.set_cons_succ])
      | (refine calm_skip (by decide) rfl ?_
         simp only [Act.put, List.setIfInBounds_toArray, List.set_cons_zero, List.set_cons_succ])
    refine calm_nil ?_
    intro wd HD
    clear H
    have hex2 := hex.out
    rw [show 64 - e = (64 - (e + 1)) + 1 by omega, exN, hq.out] at hex2
    by_cases hlt : 2 ^ (st + 1) ≤ q
    · have hcq : c ≤ (q : Int) := by rw [hcn.out]; exact Int.ofNat_le.2 hlt
      rw [if_pos hlt] at hex2
      have he20 := ex_stop hn (by rw [hq.out]; exact hlt)
      have HEX := Lib.hid hex2
      clear hex2 hex hlt
      go_wp2_with fail
      go_roundw
      case rel => exact ⟨e + 1, by go_num, by omega, HEX, HD⟩
      case measure => simp [intOf]; omega
    · have hcq : ¬ c ≤ (q : Int) := by rw [hcn.out]; exact fun h => hlt (Int.ofNat_le.1 h)
      rw [if_neg hlt] at hex2
      subst hex2
      clear hex hlt
      obtain ⟨r, hr⟩ : ∃ r : Nat, Hid (n % 2 ^ e = r) := ⟨_, rfl⟩
      have hri : bits .and .i64 (n : Int) ((2 : Int) ^ e - 1) = (r : Int) := by
        have h1 := i64_and_mask (n : Int) e (by omega)
        have h2 : ((2 ^ e - 1 : Nat) : Int) = (2 : Int) ^ e - 1 := by
          have : 0 < 2 ^ e := Nat.pow_pos (by omega)
          rw [Int.natCast_sub (by omega), Int.natCast_pow]; rfl
        rw [h2] at h1
        rw [h1, ← hr.out, Int.natCast_emod]
      obtain ⟨p, hp⟩ : ∃ p : Nat, Hid (e * 2 ^ st = p) := ⟨_, rfl⟩
      have hp80 : p ≤ 80 := by
        rw [← hp.out]
        rcases hst with rfl | rfl <;> omega
      have hpi : (e : Int) * 2 ^ st = (p : Int) := by rw [← hp.out, Int.natCast_mul, Int.natCast_pow]; rfl
      have hq20 : q ≤ 1048576 := by rw [← hq.out]; exact Nat.le_trans (Nat.div_le_self _ _) (by omega)
      have hpw : IntKind.i64.wrap ((p : Int)) = (p : Int) := IntWalk.i64_in _ ⟨by omega, by omega⟩
      have hpq : IntKind.i64.wrap ((p : Int) + (q : Int)) = ((p + q : Nat) : Int) := by rw [Int.natCast_add]; exact IntWalk.i64_in _ ⟨by omega, by omega⟩
      have h2e : IntKind.i64.wrap ((2 : Int) ^ e) = (2 : Int) ^ e ∧ IntKind.i64.wrap ((2 : Int) ^ e - 1) = (2 : Int) ^ e - 1 := by
        obtain ⟨m, hm, h1, h2⟩ : ∃ m : Nat, (2 : Int) ^ e = m ∧ 1 ≤ m ∧ m ≤ 2 ^ 20 := ⟨2 ^ e, by rw [Int.natCast_pow]; rfl, Nat.pow_pos (by omega), Nat.pow_le_pow_right (by omega) he⟩
        rw [hm]
        exact ⟨IntWalk.i64_in _ ⟨by omega, by omega⟩, IntWalk.i64_in _ ⟨by omega, by omega⟩⟩
      obtain ⟨h2e1, h2e2⟩ := h2e
      have e1 : Hid (b1 = p + q ∧ b2 = e ∧ b3 = r) := Lib.hid (by rw [← hp.out, ← hq.out, ← hr.out]; exact hP.out)
      clear hP hB
      go_upto_region 4 with (fail)
      refine wp_region_calm (fun w1 => Own w w1 []) 15 (by kernel_rfl) (by kernel_rfl) HD.drew ?_
      simp only [List.take_succ_cons, List.take_zero, List.drop_succ_cons, List.drop_zero]
      repeat
        first
        | (refine calm_value (v := ?_) (by decide) rfl (fun σ w1 hS => ?_) ?_
           rotate_left
           · skip
             first | (go_simp; rfl) | rfl
           simp only [Act.put, List.setIfInBounds_toArray, List.set_cons_zero, List.set_cons_succ])
        | (refine calm_skip (by decide) rfl ?_
           simp only [Act.put, List.setIfInBounds_toArray, List.set_cons_zero, List.set_cons_succ])
      refine calm_nil ?_
      intro we HE
      clear HD
      go_wp2_with fail
      go_ret3
      exact ⟨_, rfl, by rw [e1.out.1, e1.out.2.1, e1.out.2.2]; rfl, HE⟩

theorem length_any (n : Nat) (hn : 3 ≤ n) (hn2 : n ≤ 258) (w : World) :
    Calls Try.prog 54 #[.int .i64 n] w (Ret fun r w' => r = .tuple #[.int .i64 (lenSym n).1, .int .i64 (lenSym n).2.1, .int .i64 (lenSym n).2.2] ∧ Own w w' []) := by
  have H := Own.start w
  obtain ⟨b1, b2, b3, hB⟩ : ∃ b1 b2 b3, Hid (lenSym n = (b1, b2, b3)) := ⟨_, _, _, rfl⟩
  rw [hB.out]
  by_cases h1 : n = 258
  · subst h1
    have hB2 : (285, 0, 0) = (b1, b2, b3) := hB.out
    cases hB2
    go_enter Try.func54, Try.ntmps54
    go_wp2_with fail
    go_ret3
    exact ⟨_, rfl, rfl, H⟩
  · have h1b : ((n : Int) == 258) = false := by simp; omega
    by_cases h2 : n < 11
    · have h2I : (n : Int) < 11 := by omega
      have hB2 : Hid (254 + n = b1 ∧ 0 = b2 ∧ 0 = b3) := Lib.hid (by have h := hB.out; unfold lenSym at h; rw [if_neg h1, if_pos h2] at h; simp only [Prod.mk.injEq] at h; exact h)
      have hw : IntKind.i64.wrap (254 + (n : Int)) = 254 + (n : Int) := IntWalk.i64_in _ ⟨by omega, by omega⟩
      clear hB h1
      go_enter Try.func54, Try.ntmps54
      go_wp2_with fail
      go_ret3
      exact ⟨_, rfl, by rw [← hB2.out.1, ← hB2.out.2.1, ← hB2.out.2.2]; rfl, H⟩
    · have h2I : ¬ (n : Int) < 11 := by omega
      obtain ⟨c1, c2, c3, hC⟩ : ∃ c1 c2 c3, Hid (bandF 2 (n - 3) = (c1, c2, c3)) := ⟨_, _, _, rfl⟩
      have hB2 : Hid (257 + c1 = b1 ∧ c2 = b2 ∧ c3 = b3) := Lib.hid (by have h := hB.out; unfold lenSym at h; rw [if_neg h1, if_neg h2, hC.out] at h; simp only [Prod.mk.injEq] at h; exact h)
      have hc := band_any (n - 3) 2 (by omega) (.inr rfl)
      rw [hC.out] at hc
      rw [show ((n - 3 : Nat) : Int) = (n : Int) - 3 by omega, show ((2 : Nat) : Int) = 2 from rfl] at hc
      have HC := Lib.hid hc
      have hc1 : c1 ≤ 300 := by
        have h := hB2.out.1
        have : b1 ≤ 285 := by
          have h3 := len_sym_le ⟨n - 3, by omega⟩
          simp only [show n - 3 + 3 = n by omega, hB.out] at h3
          exact h3
        omega
      have hw : IntKind.i64.wrap ((c1 : Int) + 257) = (c1 : Int) + 257 := IntWalk.i64_in _ ⟨by omega, by omega⟩
      clear hB h1 hc
      go_enter Try.func54, Try.ntmps54
      go_wp2_with fail
      refine (HC.out _).mono ?_
      rintro e w2 ⟨_, rfl, rfl, H2⟩
      have H := H.join H2
      go_wp2_with fail
      go_ret3
      exact ⟨_, rfl, by rw [← hB2.out.1, ← hB2.out.2.1, ← hB2.out.2.2]; rfl, H⟩
theorem dist_any (n : Nat) (hn : 1 ≤ n) (hn2 : n ≤ 32768) (w : World) :
    Calls Try.prog 55 #[.int .i64 n] w (Ret fun r w' => r = .tuple #[.int .i64 (distSym n).1, .int .i64 (distSym n).2.1, .int .i64 (distSym n).2.2] ∧ Own w w' []) := by
  have H := Own.start w
  obtain ⟨b1, b2, b3, hB⟩ : ∃ b1 b2 b3, Hid (distSym n = (b1, b2, b3)) := ⟨_, _, _, rfl⟩
  rw [hB.out]
  by_cases h2 : n < 5
  · have h2I : (n : Int) < 5 := by omega
    have hB2 : Hid (n - 1 = b1 ∧ 0 = b2 ∧ 0 = b3) := Lib.hid (by have h := hB.out; unfold distSym at h; rw [if_pos h2] at h; simp only [Prod.mk.injEq] at h; exact h)
    have hB3 : Hid ((b1 : Int) = (n : Int) - 1) := Lib.hid (by have := hB2.out.1; omega)
    clear hB
    go_enter Try.func55, Try.ntmps55
    go_wp2_with fail
    go_ret3
    exact ⟨_, rfl, by rw [hB3.out, ← hB2.out.2.1, ← hB2.out.2.2]; rfl, H⟩
  · have h2I : ¬ (n : Int) < 5 := by omega
    have hc := band_any (n - 1) 1 (by omega) (.inl rfl)
    have hd : distSym n = bandF 1 (n - 1) := by unfold distSym; rw [if_neg h2]
    rw [← hd, hB.out, show ((n - 1 : Nat) : Int) = (n : Int) - 1 by omega, show ((1 : Nat) : Int) = 1 from rfl] at hc
    have HC := Lib.hid hc
    clear hB hc hd
    go_enter Try.func55, Try.ntmps55
    go_wp2_with fail
    refine (HC.out _).mono ?_
    rintro e w2 ⟨_, rfl, rfl, H2⟩
    have H := H.join H2
    go_wp2_with fail
    go_ret3
    exact ⟨_, rfl, rfl, H⟩
end Go.Proofs.Ytpbodonmiepilaa
/- huff: the walks of counts and left. -/
namespace Go.Proofs.Ytpbodonmiepilaa
open Go.RowKit


theorem results_cell2 {P : Program} {fn : Func} {p u : Tmp} {ty : TypeId} (h : fn.results = #[.cell p ty, .tmp u]) (tmps : Array Value) (w : World) (g : Nat) (t : TypeId) (cs : Array Value) (fr : Nat × Nat) (d : TypeDesc)
    (hp : tmps.getD p undef = .pointer (some ⟨g, 0, none⟩)) (hg : w.heap[g]? = some (.cells cs t fr))
    (hu : P.underlying ty = some d) (hd : (match d with | .struct _ | .array _ _ => true | _ => false) = true) (hi : (P.info? ty).map (·.size) = some cs.size) :
    (results fn tmps).run P w = .ok (.tuple #[.agg cs, tmps.getD u undef]) w := by
  rw [results_cell_tmp h, hp]
  simp [asAddr, run_loadVar_row w g t ty cs fr d hg hu hd hi, Result.andThen]
theorem arrInfo (cs : List Int) (h : cs.length = 16) : (Try.prog.info? 121).map (·.size) = some (nums cs).toArray.size := by
  rw [List.size_toArray, nums_length, h]
  kernel_rfl
section
variable {w0 w : World} {ps : List Piece} {ops : Array Oper} {rest : List Oper} {o : Oper} {a : Act} {Q : Exit → Act → World → Prop}
/-- A whole array of 16 is read. -/
theorem wpList_load16 (hgd : o.guard = none) (x : Operand) (ho : o.op = .load 121 x) {g : Nat} (hx : a.eval x = .pointer (some ⟨g, 0, none⟩)) {cs : List Int} (hl : cs.length = 16) (H : Own w0 w (blk g (.cells (nums cs).toArray 121) :: ps))
    (h : wpList Try.prog ops Q rest (a.put o.dst (.agg (nums cs).toArray)) w) : wpList Try.prog ops Q (o :: rest) a w :=
  wpList_load_row hgd 121 x ho g hx 121 (nums cs).toArray (0, 0) _ H.block.1 Try.underlying121 rfl (arrInfo cs hl) h
/-- A whole array of 16 is stored. -/
theorem wpList_store16 (hgd : o.guard = none) (x y : Operand) (ho : o.op = .store 121 x y) {g : Nat} (hx : a.eval x = .pointer (some ⟨g, 0, none⟩)) {cs ds : List Int} (hl : cs.length = 16) (hd : ds.length = 16)
    (H : Own w0 w (blk g (.cells (nums cs).toArray 121) :: ps)) (hv : a.eval y = .agg (nums ds).toArray)
    (h : ∀ w', Own w0 w' (blk g (.cells (nums ds).toArray 121) :: ps) → wpList Try.prog ops Q rest (a.put o.dst undef) w') : wpList Try.prog ops Q (o :: rest) a w :=
  wpList_store_agg hgd x y ho hx H hv (by have := arrInfo ds hd; rw [List.size_toArray] at this; exact this) (by rw [List.size_toArray, nums_length, nums_length, hl, hd]; omega) (nums_one ds) (store_whole _ _ (by rw [nums_length, nums_length, hl, hd])) h
end

set_option maxHeartbeats 3200000 in
theorem counts_any {w : World} {v : Value} {n : Nat} {F : List Int} (hr : Rd w 1 v n (nums F)) (hn : n ≤ 1000000) :
    Calls Try.prog 79 #[v] w (Ret fun r w' => (∃ cs : List Int, cs.length = 16 ∧ r = .tuple #[.agg (nums cs).toArray, .bool (mayF F)] ∧ (mayF F = true → cs = countsF F)) ∧ Own w w' []) := by
  have hl := Lib.hid (rd_len hr)
  obtain ⟨a, c, rfl, hc1, hc2⟩ := hr.shape
  have HR := Lib.hid hr
  obtain ⟨Z, hZ⟩ : ∃ Z, Hid (mayF F = Z) := ⟨_, rfl⟩
  rw [hZ.out]
  clear hr
  have H := (Own.start w).alloc2 (.cells (nums (zerosF 16)).toArray 121) (.cells (nums (zerosF 16)).toArray 121)
  rw [arr_zero] at H
  go_enter Try.func79, Try.ntmps79
  go_upto_region 2 with (fail)
  generalize (w.alloc _).alloc _ = wa at *
  rw [← arr_zero] at H
  obtain ⟨cb, hcb⟩ : ∃ g, w.heap.size + 1 = g := ⟨_, rfl⟩
  rw [hcb] at H ⊢
  generalize w.heap.size = rb at *
  clear hcb
  have hzl : (zerosF 16).length = 16 := by simp [zerosF]
  by_cases h320 : 320 < n
  · have e : Hid (Z = false) := Lib.hid (by
      rw [← hZ.out]; unfold mayF
      have := hl.out
      rw [decide_eq_false (by omega), Bool.false_and])
    have hI : (320 : Int) < (n : Int) := by omega
    go_wp2_with (first
      | (refine wpList_load16 rfl _ rfl rfl hzl H ?_)
      | (refine wpList_store16 rfl _ _ rfl rfl hzl hzl H.swap rfl ?_; clear H; intro w2 H))
    refine bodyPost_ret (results_cell2 rfl _ _ rb _ _ _ _ rfl H.block.1 Try.underlying121 rfl (arrInfo _ hzl)) rfl ?_
    exact ⟨_, rfl, ⟨_, hzl, by rw [e.out]; rfl, fun h => by rw [e.out] at h; cases h⟩, H.bare⟩
  · have hI : ¬ (320 : Int) < (n : Int) := by omega
    go_wp2_with fail
    go_loopw [13] (fun s13 wx => ∃ i : Nat, s13 = .int .i64 i ∧ i ≤ n ∧ Hid ((F.take i).all okLen = true) ∧ Own w wx [blk cb (.cells (nums (bumpF (zerosF 16) (F.take i))).toArray 121), blk rb (.cells (nums (zerosF 16)).toArray 121)]) (fun s13 _ => n - (intOf s13).toNat)
    case atStart => exact ⟨0, by go_num, by omega, Lib.hid rfl, by simpa [bumpF] using H⟩
    case round =>
      clear H
      obtain ⟨i, rfl, hi, hal, H⟩ := hrel
      have hbl : (bumpF (zerosF 16) (F.take i)).length = 16 := by rw [bumpF_length]; exact hzl
      by_cases hlt : i < n
      · have hI2 : (i : Int) < (n : Int) := by omega
        have hs := all_take_succ (p := okLen) (F := F) (i := i) (by have := hl.out; omega)
        have hbt : bumpF (zerosF 16) (F.take (i + 1)) = bump1 (bumpF (zerosF 16) (F.take i)) (F.getD i 0) := bump_take (getD_get (by have := hl.out; omega))
        have hbb := fun j => bump_bound (F.take i) (zerosF 16) j 0 (fun j => by rw [zeros_get]; omega)
        have hll : (F.take i).length ≤ 1000000 := by rw [List.length_take]; omega
        obtain ⟨b, o, rfl, c1⟩ := rd_at HR.out H hlt
        have hbad : okLen (F.getD i 0) = false → Hid (Z = false) := fun h => Lib.hid (by
          rw [← hZ.out]
          unfold mayF
          have : F.all okLen = false := by
            rw [List.all_eq_false]
            refine ⟨F.getD i 0, ?_, by rw [h]; simp⟩
            rw [List.getD_eq_getElem?_getD, List.getElem?_eq_getElem (by have := hl.out; omega)]
            exact List.getElem_mem _
          rw [this, Bool.and_false])
        rw [hal.out, Bool.true_and] at hs
        generalize F.getD i 0 = x at *
        generalize hcs : bumpF (zerosF 16) (F.take i) = cs at *
        by_cases h0 : x < 0
        · have e := hbad (by simp [okLen]; omega)
          clear hs hbad hbt hbb
          go_wp2_with (first
            | (refine wpList_load16 rfl _ rfl rfl hbl H ?_)
            | (refine wpList_store16 rfl _ _ rfl rfl hzl hbl H.swap rfl ?_; clear H; intro w2 H))
          refine bodyPost_ret (results_cell2 rfl _ _ rb _ _ _ _ rfl H.block.1 Try.underlying121 rfl (arrInfo _ hbl)) rfl ?_
          exact ⟨_, rfl, ⟨_, hbl, by rw [e.out]; rfl, fun h => by rw [e.out] at h; cases h⟩, H.bare⟩
        · by_cases h15 : 15 < x
          · have e := hbad (by simp [okLen]; omega)
            clear hs hbad hbt hbb
            go_wp2_with (first
              | (refine wpList_load16 rfl _ rfl rfl hbl H ?_)
              | (refine wpList_store16 rfl _ _ rfl rfl hzl hbl H.swap rfl ?_; clear H; intro w2 H))
            refine bodyPost_ret (results_cell2 rfl _ _ rb _ _ _ _ rfl H.block.1 Try.underlying121 rfl (arrInfo _ hbl)) rfl ?_
            exact ⟨_, rfl, ⟨_, hbl, by rw [e.out]; rfl, fun h => by rw [e.out] at h; cases h⟩, H.bare⟩
          · have e : Hid ((F.take (i + 1)).all okLen = true) := Lib.hid (by rw [hs]; simp [okLen]; omega)
            obtain ⟨m, rfl⟩ : ∃ m : Nat, x = m := ⟨x.toNat, by omega⟩
            have hb1 := hbb m
            have c0 := H.cells m
            rw [arr_get (by omega)] at c0
            have hst : (nums cs).toArray.setIfInBounds m (.int .i64 (cs.getD m 0 + 1)) = (nums (bump1 cs m)).toArray := arr_set _ _ _
            obtain ⟨y, hy⟩ : ∃ y, Hid (cs.getD m 0 = y) := ⟨_, rfl⟩
            rw [hy.out] at c0 hst hb1
            have hyw : IntKind.i64.wrap (y + 1) = y + 1 := IntWalk.i64_in _ ⟨by omega, by omega⟩
            have hmI : (m : Int) < 16 := by omega
            have HST := Lib.hid hst
            have HBT := Lib.hid hbt
            have hfit : m < (nums cs).toArray.size := by rw [List.size_toArray, nums_length]; omega
            clear hs hbad hbt hbb hst hb1
            go_wp2_with (refine wpList_store_int rfl _ _ rfl rfl H rfl (by kernel_rfl) hfit ?_; clear H c0; intro w2 H; rw [HST.out] at H)
            go_roundw
            case rel => exact ⟨i + 1, by go_num, by omega, e, by rw [HBT.out]; exact H⟩
            case measure => simp [intOf]; omega
      · obtain rfl : i = n := by omega
        have hI2 : ¬ (i : Int) < (i : Int) := by omega
        have e : Hid (Z = true) := Lib.hid (by
          rw [← hZ.out]; unfold mayF
          have h1 := hal.out
          rw [List.take_of_length_le (by have := hl.out; omega)] at h1
          rw [h1, Bool.and_true, hl.out]
          simp; omega)
        have hst : (nums (bumpF (zerosF 16) (F.take i))).toArray.setIfInBounds 0 (.int .i64 0) = (nums (countsF F)).toArray := by
          rw [arr_set, List.take_of_length_le (by have := hl.out; omega)]; rfl
        have hcl : (countsF F).length = 16 := by unfold countsF; rw [List.length_set, bumpF_length]; exact hzl
        have HST := Lib.hid hst
        have hfit : 0 < (nums (bumpF (zerosF 16) (F.take i))).toArray.size := by rw [List.size_toArray, nums_length]; omega
        clear hst
        go_wp2_with (first
          | (refine wpList_load16 rfl _ rfl rfl hcl H ?_)
          | (refine wpList_store_int rfl _ _ rfl rfl H rfl (by kernel_rfl) hfit ?_; clear H; intro w2 H; rw [HST.out] at H)
          | (refine wpList_store16 rfl _ _ rfl rfl hzl hcl H.swap rfl ?_; clear H; intro w2 H))
        refine bodyPost_ret (results_cell2 rfl _ _ rb _ _ _ _ rfl H.block.1 Try.underlying121 rfl (arrInfo _ hcl)) rfl ?_
        exact ⟨_, rfl, ⟨_, hcl, by rw [e.out]; rfl, fun _ => rfl⟩, H.bare⟩


set_option maxHeartbeats 1600000 in
theorem left_any {w : World} {cs : List Int} (hl : cs.length = 16) (hb : ∀ k, 0 ≤ cs.getD k 0 ∧ cs.getD k 0 ≤ 1000000) :
    Calls Try.prog 80 #[.agg (nums cs).toArray] w (Ret fun r w' => r = .int .i64 (leftF cs) ∧ Own w w' []) := by
  obtain ⟨Z, hZ⟩ : ∃ Z, Hid (leftF cs = Z) := ⟨_, rfl⟩
  rw [hZ.out]
  have HB := Lib.hid hb
  have H := (Own.start w).alloc (.cells (nums cs).toArray 121)
  clear hb
  go_enter Try.func80, Try.ntmps80
  go_upto_region 2 with (fail)
  generalize w.alloc (.cells (nums cs).toArray 121) = wa at *
  generalize w.heap.size = b at *
  go_wp2_with fail
  go_loopw [3, 8] (fun s3 s8 wx => ∃ (j : Nat) (n : Int), s8 = .int .i64 j ∧ j ≤ 15 ∧ s3 = .int .i64 n ∧ 0 ≤ n ∧ Hid (n ≤ ((2 ^ j : Nat) : Int)) ∧ Hid (leftL n (cs.drop (1 + j)) = Z) ∧ Own w wx [blk b (.cells (nums cs).toArray 121)]) (fun _ s8 _ => 15 - (intOf s8).toNat)
  case atStart => exact ⟨0, 1, by go_num, by omega, by go_num, by omega, Lib.hid (by simp), Lib.hid hZ.out, H⟩
  case round =>
    clear H
    obtain ⟨j, n, rfl, hj, rfl, hn, hn2, hlf, H⟩ := hrel
    have hn3 : n ≤ 32768 := by
      have h1 := hn2.out
      have h2 : (2 ^ j : Nat) ≤ 2 ^ 15 := Nat.pow_le_pow_right (by omega) hj
      omega
    by_cases hlt : j < 15
    · have hI : (j : Int) < 15 := by omega
      have c0 := H.cells (1 + j)
      rw [arr_get (by omega)] at c0
      have hk := HB.out (1 + j)
      have hd : cs.drop (1 + j) = cs.getD (1 + j) 0 :: cs.drop (1 + (j + 1)) := by
        rw [List.drop_eq_getElem_cons (by omega), List.getD_eq_getElem?_getD, List.getElem?_eq_getElem (by omega)]
        rfl
      have hlf2 := hlf.out
      rw [hd, leftL] at hlf2
      generalize cs.getD (1 + j) 0 = k at *
      have hw1 : IntKind.i64.wrap (2 * n) = 2 * n := IntWalk.i64_in _ ⟨by omega, by omega⟩
      have hw2 : IntKind.i64.wrap (2 * n - k) = 2 * n - k := IntWalk.i64_in _ ⟨by omega, by omega⟩
      by_cases hneg : 2 * n - k < 0
      · rw [if_pos hneg] at hlf2
        have e := Lib.hid hlf2.symm
        clear hlf2 hd hlf
        go_wp2_with fail
        go_ret
        exact ⟨_, rfl, by rw [e.out]; rfl, H.bare⟩
      · rw [if_neg hneg] at hlf2
        have e := Lib.hid hlf2
        have hp : Hid (2 * n - k ≤ ((2 ^ (j + 1) : Nat) : Int)) := Lib.hid (by
          have := hn2.out
          rw [Nat.pow_succ]
          omega)
        clear hlf2 hd hlf hn2
        go_wp2_with fail
        go_roundw
        case rel => exact ⟨j + 1, 2 * n - k, by go_num, by omega, by go_num, by omega, hp, e, H⟩
        case measure => simp [intOf]; omega
    · obtain rfl : j = 15 := by omega
      have e : Hid (n = Z) := Lib.hid (by
        have := hlf.out
        rw [List.drop_eq_nil_of_le (by omega)] at this
        exact this)
      clear hlf
      go_wp2_with fail
      go_ret
      exact ⟨_, rfl, by rw [← e.out]; rfl, H.bare⟩
end Go.Proofs.Ytpbodonmiepilaa
/- huff: the walk of Codes. -/
namespace Go.Proofs.Ytpbodonmiepilaa
open Go.RowKit


set_option maxRecDepth 100000 in
set_option maxHeartbeats 6400000 in
theorem codes_any {w : World} {v : Value} {n : Nat} {F : List Int} (hr : Rd w 1 v n (nums F)) (hn : n ≤ 1000000) :
    Calls Try.prog 56 #[v] w (Ret fun r w' => ∃ ov, r = .tuple #[ov, .int .i64 (cerrF F)] ∧ Own w w' [slc 3 1 ov (cresF F).length (nums (cresF F))]) := by
  have hl := Lib.hid (rd_len hr)
  obtain ⟨a, c, rfl, hc1, hc2⟩ := hr.shape
  have HR := Lib.hid hr
  obtain ⟨er, her⟩ : ∃ er, Hid (cerrF F = er) := ⟨_, rfl⟩
  obtain ⟨R, hRes⟩ : ∃ R, Hid (cresF F = R) := ⟨_, rfl⟩
  rw [her.out, hRes.out]
  obtain ⟨RL, hRL⟩ : ∃ RL, Hid (R.length = RL) := ⟨_, rfl⟩
  rw [hRL.out]
  obtain ⟨Z, hZ⟩ : ∃ Z, Hid (mayF F = Z) := ⟨_, rfl⟩
  have HC := Lib.hid (counts_any hr hn)
  rw [hZ.out] at HC
  clear hr
  have hnil : er ≠ 0 → R = [] ∧ RL = 0 := fun h => by
    have : R = [] := by rw [← hRes.out]; unfold cresF; rw [her.out, if_neg h]
    exact ⟨this, by rw [← hRL.out, this]; rfl⟩
  have HNIL := Lib.hid hnil
  clear hnil
  have hzl : (zerosF 16).length = 16 := by simp [zerosF]
  go_enter Try.func56, Try.ntmps56
  go_wp2_with fail
  refine HC.out.mono ?_
  rintro e w1 ⟨_, rfl, ⟨cs, hcs, rfl, hcs2⟩, H1⟩
  have HCS := Lib.hid hcs2
  have H := H1.alloc (.cells (nums (zerosF 16)).toArray 121)
  rw [arr_zero] at H
  clear hcs2 HC H1
  go_upto_region 2 with (first
    | (generalize w1.alloc _ = wa at *; rw [← arr_zero] at H; generalize w1.heap.size = cb at *; refine wpList_store16 rfl _ _ rfl rfl hzl hcs H rfl ?_; clear H; intro w2 H))
  cases Z with
  | false =>
    have e1 : Hid (er = 1) := Lib.hid (by rw [← her.out]; unfold cerrF; rw [hZ.out]; rfl)
    obtain ⟨e2, e3⟩ := HNIL.out (by rw [e1.out]; decide)
    subst e3
    have E2 := Lib.hid e2
    clear e2
    go_wp2_with fail
    go_ret2
    refine ⟨_, rfl, _, by rw [e1.out]; rfl, ?_⟩
    rw [E2.out]
    exact H.bare.nil 3 1
  | true =>
    have hm := mayF_len hZ.out
    have hcs2 := HCS.out rfl
    subst hcs2
    have hF := hm.2
    have hn3 : n ≤ 320 := by have := hm.1; have := hl.out; omega
    have hlw := left_law hF
    have hcb : ∀ k, 0 ≤ (countsF F).getD k 0 ∧ (countsF F).getD k 0 ≤ 1000000 := by
      intro k
      rcases Nat.lt_or_ge k 16 with h | h
      · rw [counts_get hF k h]
        unfold cntC
        split
        · omega
        · have := cntL_le F k; have := hl.out; omega
      · rw [List.getD_eq_getElem?_getD, List.getElem?_eq_none (by rw [counts_length]; exact h)]; simp
    have HL := Lib.hid (fun w => left_any (w := w) hcs hcb)
    have HF := Lib.hid hF
    have HCB := Lib.hid hcb
    clear hm hF hcb
    by_cases hw : sumF wtF F ≤ 2 ^ 15
    · rw [if_pos hw] at hlw
      have e1 : Hid (er = 0) := Lib.hid (by rw [← her.out]; unfold cerrF; rw [hZ.out, if_pos rfl, if_pos hw])
      have e2 : Hid (codesF F = R) := Lib.hid (by rw [← hRes.out]; unfold cresF; rw [her.out, e1.out]; rfl)
      have HW := Lib.hid hw
      obtain ⟨lf, hlf⟩ : ∃ lf, Hid (leftF (countsF F) = lf) := ⟨_, rfl⟩
      rw [hlf.out] at hlw HL
      have hlf0 : ¬ lf < 0 := by omega
      have hRl : n = RL := by rw [← hRL.out, ← e2.out, codesF_length]; exact hl.out.symm
      subst hRl
      clear hw hlw
      go_wp2_with (refine wpList_load16 rfl _ rfl rfl hcs H ?_)
      refine (HL.out _).mono ?_
      rintro e w3 ⟨_, rfl, rfl, H1⟩
      have H := H.join H1
      clear H1
      have H := H.alloc (.cells (nums (zerosF 16)).toArray 121)
      rw [arr_zero] at H
      go_upto_region 7 with (fail)
      generalize w3.alloc _ = wa at *
      rw [← arr_zero] at H
      generalize w3.heap.size = nb at *
      go_wp2_with fail
      go_loopw [7] (fun s7 wx => ∃ (k : Nat) (nx : List Int), s7 = .int .i64 k ∧ 1 ≤ k ∧ k ≤ 15 ∧ Hid (nx.length = 16) ∧ Hid (∀ j, j ≤ k → nx.getD j 0 = lowF F j) ∧ Own w wx (blk nb (.cells (nums nx).toArray 121) :: blk cb (.cells (nums (countsF F)).toArray 121) :: [])) (fun s7 _ => 15 - (intOf s7).toNat)
      case atStart => exact ⟨1, zerosF 16, by go_num, by omega, by omega, Lib.hid hzl, Lib.hid (fun j h => by
        rw [zeros_get]
        rcases (by omega : j = 0 ∨ j = 1) with rfl | rfl
        · rw [lowF_zero]
        · rw [lowF_succ, lowF_zero]; rfl), H⟩
      case round =>
        clear H
        obtain ⟨k, nx, rfl, hk1, hk2, hnl, hnx, H⟩ := hrel
        have hcl := counts_length F
        by_cases hlt : k < 15
        · have hkI : (k : Int) < 15 := by omega
          have hk16 : (k : Int) < 16 := by omega
          have hk17 : (k : Int) + 1 < 16 := by omega
          have hkw : IntKind.i64.wrap ((k : Int) + 1) = (k : Int) + 1 := IntWalk.i64_in _ ⟨by omega, by omega⟩
          have hfit : k + 1 < (nums nx).toArray.size := by rw [List.size_toArray, nums_length]; have := hnl.out; omega
          have g0 : ∀ (ps' : List Piece) (w' : World), Own w w' (blk nb (.cells (nums nx).toArray 121) :: blk cb (.cells (nums (countsF F)).toArray 121) :: ps') → w'.cell? ⟨nb, k, none⟩ = some (.int .i64 (lowF F k)) ∧ w'.cell? ⟨cb, k, none⟩ = some (.int .i64 (cntC F k)) := fun ps' w' h => by
            constructor
            · rw [h.cells, arr_get (by have := hnl.out; omega), hnx.out k (Nat.le_refl _)]
            · rw [h.swap.cells, arr_get (by omega), counts_get HF.out k (by omega)]
          have G0 := Lib.hid g0
          have hlow := lowF_succ F k
          have hroom := low_room HF.out HW.out (k + 1) (by omega)
          have hpk : (2 : Int) ^ (k + 1) ≤ 32768 := by
            have : (2 : Nat) ^ (k + 1) ≤ 2 ^ 15 := Nat.pow_le_pow_right (by omega) (by omega)
            have h2 : ((2 ^ (k + 1) : Nat) : Int) ≤ ((2 ^ 15 : Nat) : Int) := Int.ofNat_le.2 this
            simpa using h2
          have b1 := lowF_nonneg F k
          have b2 := cntC_nonneg F k
          have b3 := cntC_nonneg F (k + 1)
          have hst := arr_set nx (k + 1) (lowF F (k + 1))
          have hnx2 : Hid (∀ j, j ≤ k + 1 → (nx.set (k + 1) (lowF F (k + 1))).getD j 0 = lowF F j) := Lib.hid (fun j hj => by
            rw [List.getD_eq_getElem?_getD, List.getElem?_set]
            by_cases h : k + 1 = j
            · subst h; rw [if_pos rfl, if_pos (by have := hnl.out; omega)]; rfl
            · rw [if_neg h, ← List.getD_eq_getElem?_getD]; exact hnx.out j (by omega))
          have hnl2 : Hid ((nx.set (k + 1) (lowF F (k + 1))).length = 16) := Lib.hid (by rw [List.length_set]; exact hnl.out)
          generalize lowF F (k + 1) = y2 at *
          generalize lowF F k = y at *
          generalize cntC F k = z at *
          generalize cntC F (k + 1) = z2 at *
          generalize (2 : Int) ^ (k + 1) = pw at *
          generalize hnx' : nx.set (k + 1) y2 = nx2 at *
          have HST := Lib.hid hst
          clear hst hnx' hnx g0
          have hs1 : IntKind.i64.wrap (y + z) = y + z := IntWalk.i64_in _ ⟨by omega, by omega⟩
          have hs2 : IntKind.i64.wrap ((y + z) * 2) = y2 := by rw [hlow, Int.mul_comm]; exact IntWalk.i64_in _ ⟨by omega, by omega⟩
          have HLOW := Lib.hid hlow
          clear hlow hroom
          go_upto_region 10 with (fail)
          refine wp_region_calm (fun w1 => Own w w1 (blk nb (.cells (nums nx).toArray 121) :: blk cb (.cells (nums (countsF F)).toArray 121) :: [])) 10 (by kernel_rfl) (by kernel_rfl) H.drew ?_
          simp only [List.take_succ_cons, List.take_zero, List.drop_succ_cons, List.drop_zero]
          repeat
            first
            | (refine calm_value (v := ?_) (by decide) rfl (fun σ w1 hS => ?_) ?_
               rotate_left
               · obtain ⟨c0, c1⟩ := G0.out _ _ hS
                 first | (go_simp; rfl) | rfl
               simp only [Act.put, List.setIfInBounds_toArray, List.set_cons_zero, List.set_cons_succ])
            | (refine calm_skip (by decide) rfl ?_
               simp only [Act.put, List.setIfInBounds_toArray, List.set_cons_zero, List.set_cons_succ])
          refine calm_nil ?_
          intro wd HD
          clear H
          go_wp2_with (refine wpList_store_int rfl _ _ rfl rfl HD rfl (by kernel_rfl) hfit ?_; clear HD; intro w4 H; rw [HST.out] at H)
          go_roundw
          case rel => exact ⟨k + 1, nx2, by go_num, by omega, by omega, hnl2, hnx2, H⟩
          case measure => simp [intOf]; omega
        · have hkI : ¬ (k : Int) < 15 := by omega
          have hk15 : Hid (15 ≤ k) := Lib.hid (by omega)
          have hmk : ∀ w : World, (Instr.makeSlice 22 (.int .i64 n) (.int .i64 n)).run Try.prog w = .ok (.slice (some ⟨w.heap.size, 0, none⟩) n n) (w.alloc (.cells (madeCells #[.int .i64 0] n) 3)) := run_make_row' _ _ _ 8 Try.underlying22 intInfo rfl .i64 .i64 n (by omega) (by omega)
          go_upto_region 12 with (fail)
          clear hmk
          have H := (H.alloc (.cells (madeCells #[.int .i64 0] n) 3)).slc_mk (xs := nums (zerosF n)) (n := n) (size := 1) (by simp [nums, zerosF]) (Nat.le_refl _) (by simp [maxLen]; omega) (by simp [size_madeCells]) (by rw [toList_madeCells_one]; simp [nums, zerosF])
          generalize World.alloc _ (.cells (madeCells #[.int .i64 0] n) 3) = wb at *
          generalize wr.heap.size = og at *
          go_wp2_with fail
          go_loopw [43] (fun s43 wx => ∃ (i : Nat) (ny o : List Int), s43 = .int .i64 i ∧ i ≤ n ∧ Hid (ny.length = 16) ∧ Hid (o.length = n) ∧ Hid (∀ j : Nat, 1 ≤ j → j ≤ 15 → ny.getD j 0 = lowF F j + cntL (F.take i) j) ∧ Hid (∀ s, o.getD s 0 = if s < i then codeF F s else 0) ∧ Own w wx (slc 3 1 (.slice (some ⟨og, 0, none⟩) n n) n (nums o) :: blk nb (.cells (nums ny).toArray 121) :: blk cb (.cells (nums (countsF F)).toArray 121) :: [])) (fun s43 _ => n - (intOf s43).toNat)
          case atStart => exact ⟨0, nx, zerosF n, by go_num, by omega, hnl, Lib.hid (by simp [zerosF]), Lib.hid (fun j h1 h2 => by rw [hnx.out j (by have := hk15.out; omega)]; simp [cntL]), Lib.hid (fun s => by rw [zeros_get, if_neg (by omega)]), H⟩
          case round =>
            clear H hnx hnl
            obtain ⟨i, ny, o, rfl, hi, hnl, hol, hny, ho, H⟩ := hrel
            by_cases hlt : i < n
            · have hI : (i : Int) < (n : Int) := by omega
              obtain ⟨b, oo, rfl, c1⟩ := rd_at HR.out H hlt
              have hx := HF.out (F.getD i 0) (by
                rw [List.getD_eq_getElem?_getD, List.getElem?_eq_getElem (by have := hl.out; omega)]
                exact List.getElem_mem _)
              have hil : i < F.length := by have := hl.out; omega
              by_cases hpos : 0 < F.getD i 0
              · have hcode : codeF F i = lowF F (F.getD i 0).toNat + cntL (F.take i) (F.getD i 0).toNat := by unfold codeF; rw [if_pos hpos]
                obtain ⟨m, hm⟩ : ∃ m : Nat, F.getD i 0 = m := ⟨(F.getD i 0).toNat, by omega⟩
                have hm1 : 1 ≤ m := by omega
                have hm2 : m ≤ 15 := by omega
                have hlt2 := code_lt hil hpos
                have hroom := low_room HF.out HW.out m hm2
                have hpk : (2 : Int) ^ m ≤ 32768 := by
                  have : (2 : Nat) ^ m ≤ 2 ^ 15 := Nat.pow_le_pow_right (by omega) (by omega)
                  have h2 : ((2 ^ m : Nat) : Int) ≤ ((2 ^ 15 : Nat) : Int) := Int.ofNat_le.2 this
                  simpa using h2
                have hcn := code_nonneg (l := F) i
                rw [hm] at hcode hpos hx c1 hlt2
                rw [Int.toNat_natCast] at hcode hlt2
                have hnyv : ny.getD m 0 = codeF F i := by rw [hny.out m hm1 hm2, hcode]
                have g0 := H.swap.cells m
                rw [arr_get (by have := hnl.out; omega), hnyv] at g0
                have ho2 : Hid (∀ s, (o.set i (codeF F i)).getD s 0 = if s < i + 1 then codeF F s else 0) := Lib.hid (fun s => by
                  rw [List.getD_eq_getElem?_getD, List.getElem?_set]
                  by_cases h : i = s
                  · subst h; rw [if_pos rfl, if_pos (by have := hol.out; omega), if_pos (by omega)]; rfl
                  · rw [if_neg h, ← List.getD_eq_getElem?_getD, ho.out s]
                    by_cases h2 : s < i
                    · rw [if_pos h2, if_pos (by omega)]
                    · rw [if_neg h2, if_neg (by omega)])
                have hny2 : Hid (∀ j : Nat, 1 ≤ j → j ≤ 15 → (ny.set m (codeF F i + 1)).getD j 0 = lowF F j + cntL (F.take (i + 1)) j) := Lib.hid (fun j h1 h2 => by
                  rw [cntL_take_succ hil, hm, List.getD_eq_getElem?_getD, List.getElem?_set]
                  by_cases h : m = j
                  · subst h; rw [if_pos rfl, if_pos (by have := hnl.out; omega), if_pos rfl, hcode]; simp; omega
                  · rw [if_neg h, if_neg (by omega), ← List.getD_eq_getElem?_getD, hny.out j h1 h2]; simp)
                have hol2 : Hid ((o.set i (codeF F i)).length = n) := Lib.hid (by rw [List.length_set]; exact hol.out)
                have hnl2 : Hid ((ny.set m (codeF F i + 1)).length = 16) := Lib.hid (by rw [List.length_set]; exact hnl.out)
                have hst1 : (nums o).set i (.int .i64 (codeF F i)) = nums (o.set i (codeF F i)) := nums_set _ _ _
                have hst2 := arr_set ny m (codeF F i + 1)
                have hfit : m < (nums ny).toArray.size := by rw [List.size_toArray, nums_length]; have := hnl.out; omega
                have hy1 : codeF F i ≤ 32768 := by
                  have : cntC F m = cntL F m := by unfold cntC; rw [if_neg (by omega)]
                  omega
                have HNY := Lib.hid hnyv
                clear hcode hlt2 hroom hpk hnyv hm
                generalize codeF F i = y at *
                have HST1 := Lib.hid hst1
                have HST2 := Lib.hid hst2
                have hyw : IntKind.i64.wrap (y + 1) = y + 1 := IntWalk.i64_in _ ⟨by omega, by omega⟩
                have hmI : (m : Int) < 16 := by omega
                clear hst1 hst2 hny ho hil
                go_wp2_with (first
                  | (refine wpList_store_slc rfl _ _ rfl rfl H (.int .i64 y) rfl (by kernel_rfl) (by omega) rfl ?_; clear H c1 g0; intro w5 H; rw [HST1.out] at H; have g0 := H.swap.cells m; rw [arr_get (by have := hnl.out; omega), HNY.out] at g0)
                  | (refine wpList_store_int rfl _ _ rfl rfl H.swap rfl (by kernel_rfl) hfit ?_; clear H g0; intro w6 H; rw [HST2.out] at H; replace H := H.swap))
                go_roundw
                case rel => exact ⟨i + 1, _, _, by go_num, by omega, hnl2, hol2, hny2, ho2, H⟩
                case measure => simp [intOf]; omega
              · have hcode : codeF F i = 0 := by unfold codeF; rw [if_neg hpos]
                have ho2 : Hid (∀ s, o.getD s 0 = if s < i + 1 then codeF F s else 0) := Lib.hid (fun s => by
                  rw [ho.out s]
                  by_cases h2 : s < i
                  · rw [if_pos h2, if_pos (by omega)]
                  · rw [if_neg h2]
                    by_cases h3 : s = i
                    · subst h3; rw [if_pos (by omega), hcode]
                    · rw [if_neg (by omega)])
                have hny2 : Hid (∀ j : Nat, 1 ≤ j → j ≤ 15 → ny.getD j 0 = lowF F j + cntL (F.take (i + 1)) j) := Lib.hid (fun j h1 h2 => by
                  rw [cntL_take_succ hil, if_neg (by omega), hny.out j h1 h2]; simp)
                generalize F.getD i 0 = x at *
                clear hcode hny ho hil
                go_wp2_with fail
                go_roundw
                case rel => exact ⟨i + 1, ny, o, by go_num, by omega, hnl, hol, hny2, ho2, H⟩
                case measure => simp [intOf]; omega
            · obtain rfl : i = n := by omega
              have hI : ¬ (i : Int) < (i : Int) := by omega
              have e3 : Hid (o = R) := Lib.hid (by
                rw [← e2.out]
                refine List.ext_getElem (by rw [hol.out, codesF_length, hl.out]) fun s h1 h2 => ?_
                have h3 := ho.out s
                rw [if_pos (by have := hol.out; omega), List.getD_eq_getElem?_getD, List.getElem?_eq_getElem h1] at h3
                have h4 := codesF_get (l := F) (s := s) (by have := hol.out; have := hl.out; omega)
                rw [List.getD_eq_getElem?_getD, List.getElem?_eq_getElem h2] at h4
                exact h3.trans h4.symm)
              clear ho hny
              go_wp2_with fail
              go_ret2
              refine ⟨_, rfl, _, by rw [e1.out]; rfl, ?_⟩
              rw [← e3.out]
              exact ((((H.front 2 rfl).front 2 rfl).drop.drop))
    · rw [if_neg hw] at hlw
      have e1 : Hid (er = 2) := Lib.hid (by rw [← her.out]; unfold cerrF; rw [hZ.out, if_pos rfl, if_neg hw])
      obtain ⟨e2, e3⟩ := HNIL.out (by rw [e1.out]; decide)
      subst e3
      have E2 := Lib.hid e2
      obtain ⟨lf, hlf⟩ : ∃ lf, Hid (leftF (countsF F) = lf) := ⟨_, rfl⟩
      rw [hlf.out] at hlw HL
      have hlf0 : lf < 0 := by omega
      clear e2 hw hlw
      go_wp2_with (refine wpList_load16 rfl _ rfl rfl hcs H ?_)
      refine (HL.out _).mono ?_
      rintro e w3 ⟨_, rfl, rfl, H1⟩
      have H := H.join H1
      clear H1
      go_wp2_with fail
      go_ret2
      refine ⟨_, rfl, _, by rw [e1.out]; rfl, ?_⟩
      rw [E2.out]
      exact H.bare.nil 3 1
end Go.Proofs.Ytpbodonmiepilaa
/- Bits: Writer.Put. -/
namespace Go.Proofs.Ytpbodonmiepilaa
open Go.RowKit

set_option maxHeartbeats 400000 in
theorem put_any {w0 w : World} {ps : List Piece} {g : Nat} {bs : List Bool} (v n : Int) (hv : -9223372036854775808 ≤ v ∧ v ≤ 9223372036854775807) (hn : -9223372036854775808 ≤ n ∧ n ≤ 9223372036854775807) (H : Own w0 w (Wtr g bs :: ps)) (hl : bs.length ≤ 35184372088000) :
    Calls Try.prog 49 #[.pointer (some ⟨g, 0, none⟩), .int .i64 v, .int .i64 n] w (Ret fun _ w' => Own w0 w' (Wtr g (bs ++ bitsOf v (cut n)) :: ps)) := by
  obtain ⟨hv1, hv2⟩ := hv
  obtain ⟨hn1, hn2⟩ := hn
  obtain ⟨m, hm, hm62⟩ : ∃ m : Nat, Hid (cut n = m) ∧ m ≤ 62 := ⟨_, Lib.hid rfl, by unfold cut; omega⟩
  have hmn : Hid (min (max n 0) 62 = (m : Int)) := Lib.hid (by rw [← hm.out]; unfold cut; omega)
  go_enter Try.func49, Try.ntmps49
  go_upto_region 1 with (fail)
  go_cut [11, 12] (fun s11 s12 wx => wx = w ∧ s11 = .int .i64 m ∧ s12 = .int .i64 0)
  case first =>
    go_wp2
    all_goals go_meet
    all_goals exact ⟨rfl, val_int (by have := hmn.out; omega), rfl⟩
  case rest =>
    obtain ⟨rfl, rfl, rfl⟩ := hcut
    go_wp2_with fail
    go_loopw [12] (fun i wx => ∃ k : Nat, k ≤ m ∧ i = .int .i64 k ∧ Own w0 wx (Wtr g (bs ++ bitsOf v k) :: ps)) (fun i _ => m - (intOf i).toNat)
    case atStart => exact ⟨0, Nat.zero_le _, rfl, by simpa [bitsOf] using H⟩
    case round =>
      clear H
      obtain ⟨k, hk, rfl, H⟩ := hrel
      by_cases hlt : k < m
      · obtain ⟨b, hbb⟩ : ∃ b, Hid (bitOf v k = b) := ⟨_, rfl⟩
        have hbit : bits .and .i64 (v / 2 ^ k) 1 = bi b := by rw [i64_and1, ← hbb.out, bi_bitOf]
        go_wp2_with fail
        refine (bit_any b H (by simp [bitsOf_length]; omega)).mono ?_
        rintro e w2 ⟨_, rfl, h2⟩
        replace H : Own w0 w2 (Wtr g (bs ++ bitsOf v (k + 1)) :: ps) := by rw [bitsOf_succ, ← List.append_assoc, hbb.out]; exact h2
        clear h2
        go_wp2
        go_roundw
        case rel => exact ⟨k + 1, by omega, by go_num, H⟩
        case measure => simp [intOf]; omega
      · obtain rfl : k = m := by omega
        go_wp2
        go_end0
        rw [hm.out]
        exact ⟨_, rfl, H⟩
end Go.Proofs.Ytpbodonmiepilaa
/- Bits: Writer.Code. -/
namespace Go.Proofs.Ytpbodonmiepilaa
open Go.RowKit

set_option maxHeartbeats 400000 in
theorem code_any {w0 w : World} {ps : List Piece} {g : Nat} {bs : List Bool} (v n : Int) (hv : -9223372036854775808 ≤ v ∧ v ≤ 9223372036854775807) (hn : -9223372036854775808 ≤ n ∧ n ≤ 9223372036854775807) (H : Own w0 w (Wtr g bs :: ps)) (hl : bs.length ≤ 35184372088000) :
    Calls Try.prog 77 #[.pointer (some ⟨g, 0, none⟩), .int .i64 v, .int .i64 n] w (Ret fun _ w' => Own w0 w' (Wtr g (bs ++ (bitsOf v (cut n)).reverse) :: ps)) := by
  obtain ⟨hv1, hv2⟩ := hv
  obtain ⟨hn1, hn2⟩ := hn
  obtain ⟨m, hm, hm62⟩ : ∃ m : Nat, Hid (cut n = m) ∧ m ≤ 62 := ⟨_, Lib.hid rfl, by unfold cut; omega⟩
  have hmn : Hid (min (max n 0) 62 = (m : Int)) := Lib.hid (by rw [← hm.out]; unfold cut; omega)
  go_enter Try.func77, Try.ntmps77
  go_upto_region 1 with (fail)
  go_cut [6] (fun s6 wx => wx = w ∧ s6 = .int .i64 ((m : Int) - 1))
  case first =>
    go_wp2
    all_goals go_meet
    all_goals exact ⟨rfl, val_int (by have := hmn.out; omega)⟩
  case rest =>
    obtain ⟨rfl, rfl⟩ := hcut
    go_wp2_with fail
    go_loopw [6] (fun i wx => ∃ k : Nat, ∃ d : Int, k ≤ m ∧ i = .int .i64 d ∧ Hid (d = (m : Int) - 1 - k) ∧ Own w0 wx (Wtr g (bs ++ (bitsOf v m).reverse.take k) :: ps)) (fun i _ => (intOf i + 1).toNat)
    case atStart => exact ⟨0, _, Nat.zero_le _, rfl, Lib.hid (by omega), by simpa using H⟩
    case round =>
      clear H
      obtain ⟨k, d, hk, rfl, hd, H⟩ := hrel
      by_cases hlt : k < m
      · obtain ⟨j, hj⟩ : ∃ j, Hid (m - 1 - k = j) := ⟨_, rfl⟩
        obtain rfl : d = (j : Int) := by have := hd.out; have := hj.out; omega
        have hj62 : j < 62 := by have := hj.out; omega
        obtain ⟨b, hbb⟩ : ∃ b, Hid (bitOf v j = b) := ⟨_, rfl⟩
        have hbit : bits .and .i64 (v / 2 ^ j) 1 = bi b := by rw [i64_and1, ← hbb.out, bi_bitOf]
        go_wp2_with fail
        refine (bit_any b H (by simp [bitsOf_length]; omega)).mono ?_
        rintro e w2 ⟨_, rfl, h2⟩
        replace H : Own w0 w2 (Wtr g (bs ++ (bitsOf v m).reverse.take (k + 1)) :: ps) := by rw [codeBits_take v m k hlt, ← List.append_assoc, hj.out, hbb.out]; exact h2
        clear h2
        go_wp2
        go_roundw
        case rel => exact ⟨k + 1, _, by omega, rfl, Lib.hid (by have := hd.out; omega), H⟩
        case measure => simp [intOf]
      · have hd0 : d < 0 := by have := hd.out; omega
        obtain rfl : k = m := by omega
        rw [List.take_of_length_le (by simp [bitsOf_length])] at H
        go_wp2
        go_end0
        rw [hm.out]
        exact ⟨_, rfl, H⟩
end Go.Proofs.Ytpbodonmiepilaa
/- flate: the walks of head, made, put. -/
namespace Go.Proofs.Ytpbodonmiepilaa
open Go.RowKit

/-- What reads so wherever ps is owned. -/
def Reads (w0 : World) (ps : List Piece) (size : Nat) (v : Value) (n : Nat) (xs : List Value) : Prop := ∀ w', Own w0 w' ps → Rd w' size v n xs
theorem Reads.mono {w0 : World} {ps qs : List Piece} {size n : Nat} {v : Value} {xs : List Value} (h : Reads w0 ps size v n xs) (hk : ∀ w', Own w0 w' qs → Own w0 w' ps) : Reads w0 qs size v n xs := fun w' h' => h w' (hk w' h')
/-- A code: lengths, and codes, that are read. -/
structure CodOk (w0 : World) (ps : List Piece) (v u : Value) (L : List Int) : Prop where
  len : Reads w0 ps 1 v L.length (nums L)
  cod : Reads w0 ps 1 u L.length (nums (codesF L))
  all : ∀ x ∈ L, 0 ≤ x ∧ x ≤ 15
  wt : sumF wtF L ≤ 2 ^ 15
  few : L.length ≤ 320
theorem CodOk.mono {w0 : World} {ps qs : List Piece} {v u : Value} {L : List Int} (h : CodOk w0 ps v u L) (hk : ∀ w', Own w0 w' qs → Own w0 w' ps) : CodOk w0 qs v u L := ⟨h.len.mono hk, h.cod.mono hk, h.all, h.wt, h.few⟩
theorem cut_eq {x : Int} (h0 : 0 ≤ x) (h1 : x ≤ 62) : cut x = x.toNat := by unfold cut; omega
theorem CodOk.bd {w0 : World} {ps : List Piece} {v u : Value} {L : List Int} (h : CodOk w0 ps v u L) {s : Nat} (hs : s < L.length) : 0 ≤ L.getD s 0 ∧ L.getD s 0 ≤ 15 ∧ 0 ≤ codeF L s ∧ codeF L s ≤ 32768 := by
  have h1 := h.all _ (mem_getD2 hs)
  have h2 := code_nonneg (l := L) s
  refine ⟨h1.1, h1.2, h2, ?_⟩
  by_cases h0 : 0 < L.getD s 0
  · have h3 := code_fits h.all h.wt hs h0
    obtain ⟨p, hp, h4, h5⟩ := pow_pos_nat (L.getD s 0).toNat (by omega)
    rw [hp] at h3
    omega
  · unfold codeF; rw [if_neg h0]; omega

theorem head_any {w0 w : World} {ps : List Piece} {g : Nat} {bs : List Bool} (last : Bool) (kind : Int) (hk : 0 ≤ kind ∧ kind ≤ 3) (H : Own w0 w (Wtr g bs :: ps)) (hl : bs.length ≤ 35184372087000) :
    Calls Try.prog 34 #[.pointer (some ⟨g, 0, none⟩), .bool last, .int .i64 kind] w (Ret fun _ w' => Own w0 w' (Wtr g (bs ++ headB last kind) :: ps)) := by
  have h1 : ∀ (b : Bool), bitsOf (bi b) (cut 1) = [b] := by intro b; cases b <;> decide
  have h2 := put_any (w := w) (bi last) 1 (by cases last <;> decide) (by omega) H (by omega)
  rw [h1] at h2
  have h3 := fun w1 (H : Own w0 w1 (Wtr g (bs ++ [last]) :: ps)) => put_any kind 2 (by omega) (by omega) H (by rw [List.length_append]; simp; omega)
  rw [show cut 2 = 2 from rfl, List.append_assoc] at h3
  have H2 := Lib.hid h2
  have H3 := Lib.hid h3
  clear h1 h2 h3 H
  cases last
  all_goals
    simp only [bi, if_true, if_false, Bool.false_eq_true] at H2
    go_enter Try.func34, Try.ntmps34
    go_wp2_with fail
    refine H2.out.mono ?_
    rintro e w1 ⟨_, rfl, H⟩
    go_wp2_with fail
    refine (H3.out _ H).mono ?_
    rintro e w2 ⟨_, rfl, H⟩
    go_wp2_with fail
    go_end0
    exact ⟨_, rfl, H⟩

theorem results_cell1 {P : Program} {fn : Func} {p : Tmp} {ty : TypeId} (h : fn.results = #[.cell p ty]) (tmps : Array Value) (w : World) (g : Nat) (v : Value)
    (hp : tmps.getD p undef = .pointer (some ⟨g, 0, none⟩)) (hl : (loadVar ty ⟨g, 0, none⟩).run P w = .ok v w) : (results fn tmps).run P w = .ok v w := by
  have hp' : tmps[p]?.getD undef = .pointer (some ⟨g, 0, none⟩) := by simpa using hp
  simp only [results, h]
  simp [hp', asAddr, hl]
set_option maxRecDepth 100000 in
theorem made_any {w : World} {v : Value} {n : Nat} {L : List Int} (hr : Rd w 1 v n (nums L)) (hn : n ≤ 1000000) (hc : cerrF L = 0) :
    Calls Try.prog 37 #[v] w (Ret fun r w' => ∃ u, r = .agg #[v, u] ∧ Own w w' [slc 3 1 u L.length (nums (codesF L))]) := by
  have hl := Lib.hid (rd_len hr)
  rw [hl.out]
  obtain ⟨a, c, rfl, hc1, hc2⟩ := hr.shape
  have H := (Own.start w).alloc (.cells #[.slice none 0 0, .slice none 0 0] 75)
  have hcd := codes_any (hr.old H) hn
  have hcr : cresF L = codesF L := by unfold cresF; rw [if_pos hc]
  rw [hc, hcr, codesF_length, hl.out] at hcd
  have HC := Lib.hid hcd
  clear hr hc hcd hcr
  go_enter Try.func37, Try.ntmps37
  go_wp2_with fail
  generalize w.alloc _ = w1 at *
  generalize w.heap.size = g at *
  refine HC.out.mono ?_
  rintro e w2 ⟨_, rfl, u, rfl, H2⟩
  have H := (H.join H2).swap
  obtain ⟨a2, c2, rfl, -⟩ := (H.front 1 rfl).rd.shape
  clear H2
  have H : Own w w2 (blk g (.cells #[.slice none 0 0, .slice none 0 0] 75) :: [slc 3 1 (.slice a2 n c2) n (nums (codesF L))]) := H
  go_wp2_with (refine wpList_store_agg (vs := [.slice a n c, .slice a2 n c2]) rfl _ _ rfl rfl H rfl (by kernel_rfl) (by simp) (by simp [Value.oneCell']) rfl ?_; clear H; intro w5 H)
  have c0 := H.cells
  have hld : (loadVar 75 ⟨g, 0, none⟩).run Try.prog w5 = .ok (.agg #[.slice a n c, .slice a2 n c2]) w5 := by
    clear HC
    go_simp
  refine bodyPost_ret (results_cell1 rfl _ _ g _ rfl hld) rfl ?_
  exact ⟨_, rfl, _, rfl, H.drop⟩
set_option maxRecDepth 100000 in
set_option maxHeartbeats 1600000 in
theorem cput_any {w0 w : World} {ps : List Piece} {g s : Nat} {bs : List Bool} {v u : Value} {L : List Int} (hc : CodOk w0 ps v u L) (hs : s < L.length) (H : Own w0 w (Wtr g bs :: ps)) (hl : bs.length ≤ 35184372087000) :
    Calls Try.prog 53 #[.agg #[v, u], .pointer (some ⟨g, 0, none⟩), .int .i64 s] w (Ret fun _ w' => Own w0 w' (Wtr g (bs ++ cbits L s) :: ps)) := by
  obtain ⟨b1, o1, c1, rfl, hc1, hc2⟩ := (hc.len w H.drop).some (by rw [nums_length]; omega)
  obtain ⟨b2, o2, c2, rfl, hc3, hc4⟩ := (hc.cod w H.drop).some (by rw [nums_length, codesF_length]; omega)
  have hb := hc.bd hs
  have hw := fun w1 (h : Own w0 w1 (Wtr g bs :: ps)) => code_any (codeF L s) (L.getD s 0) (by omega) (by omega) h (by omega)
  have hcb : (bitsOf (codeF L s) (cut (L.getD s 0))).reverse = cbits L s := by unfold cbits; rw [cut_eq hb.1 (by omega)]
  rw [hcb] at hw
  have hcell : ∀ w1, Own w0 w1 ps → w1.cell? ⟨b1, o1 + s, none⟩ = some (.int .i64 (L.getD s 0)) ∧ w1.cell? ⟨b2, o2 + s, none⟩ = some (.int .i64 (codeF L s)) := fun w1 h => by
    refine ⟨(hc.len w1 h).cell (nums_get (getD_get hs)), (hc.cod w1 h).cell (nums_get ?_)⟩
    rw [getD_get (by rw [codesF_length]; exact hs), codesF_get hs]
  have hfew := hc.few
  obtain ⟨n, hn⟩ : ∃ n, Hid (L.length = n) := ⟨_, rfl⟩
  rw [hn.out] at hs hc1 hc3 hfew ⊢
  generalize L.getD s 0 = x at *
  generalize codeF L s = y at *
  have HW := Lib.hid hw
  have HC := Lib.hid hcell
  have hsI : (s : Int) < (n : Int) := by omega
  have hnil : s < n := hs
  clear hw hcell hc hcb hb
  have H := (H.alloc (.cells #[.slice (some ⟨b1, o1, none⟩) n c1, .slice (some ⟨b2, o2, none⟩) n c2] 75)).swap
  go_enter Try.func53, Try.ntmps53
  go_upto_region 1 with (fail)
  generalize w.alloc _ = w1 at *
  generalize w.heap.size = g2 at *
  refine wp_region_calm (fun w1 => Own w0 w1 (Wtr g bs :: blk g2 (.cells #[.slice (some ⟨b1, o1, none⟩) n c1, .slice (some ⟨b2, o2, none⟩) n c2] 75) :: ps)) 11 (by kernel_rfl) (by kernel_rfl) H.drew ?_
  simp only [List.take_succ_cons, List.take_zero, List.drop_succ_cons, List.drop_zero]
  repeat
    first
    | (refine calm_value (v := ?_) (by decide) rfl (fun σ w1 hS => ?_) ?_
       rotate_left
       · have c0 := (hS.front 1 rfl).cells; obtain ⟨c1, c2⟩ := HC.out _ hS.drop.drop
         first | (go_simp; rfl) | rfl
       simp only [Act.put, List.setIfInBounds_toArray, List.set_cons_zero, List.set_cons_succ])
    | (refine calm_skip (by decide) rfl ?_
       simp only [Act.put, List.setIfInBounds_toArray, List.set_cons_zero, List.set_cons_succ])
  refine calm_nil ?_
  intro wd HD
  clear H
  go_wp2_with fail
  refine (HW.out _ (HD.front 1 rfl).drop).mono ?_
  rintro e w3 ⟨_, rfl, H⟩
  go_wp2_with fail
  go_end0
  exact ⟨_, rfl, H⟩
end Go.Proofs.Ytpbodonmiepilaa
