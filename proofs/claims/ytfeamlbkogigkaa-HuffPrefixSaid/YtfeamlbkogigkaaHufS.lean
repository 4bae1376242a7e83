/-
  huff: lengths of frequencies, plainly. No program in sight.
-/
import Derived.Test.YtfeamlbkogigkaaHufO
namespace Go.Proofs.Ytfeamlbkogigkaa

/-- A symbol's frequency. -/
def frq (F : List Int) (x : Int) : Int := F.getD x.toNat 0
/-- The symbols in use, of the first k. -/
def usedN (F : List Int) : Nat → List Int
  | 0 => []
  | k + 1 => if 0 < F.getD k 0 then usedN F k ++ [(k : Int)] else usedN F k
def usedF (F : List Int) : List Int := usedN F F.length
def symsF (F : List Int) : List Int := sortF (frq F) (usedF F)
def coinOf (F : List Int) (s : Int) : Coin := ⟨frq F s, false⟩
def baseF (F : List Int) : List Coin := (symsF F).map (coinOf F)
def bump1 (o : List Int) (s : Int) : List Int := o.set s.toNat (o.getD s.toNat 0 + 1)
def bumpF (o : List Int) (l : List Int) : List Int := l.foldl bump1 o
def zerosF (n : Nat) : List Int := List.replicate n 0
def outF (syms : List Int) (cs : List Nat) (o : List Int) : List Int := cs.foldl (fun o c => bumpF o (syms.take c)) o
/-- The lengths. -/
def lengthsF (F : List Int) (L : Nat) : List Int :=
  if (symsF F).length < 2 then bumpF (zerosF F.length) (symsF F)
  else outF (symsF F) (cntF (baseF F) (L - 1) (2 * (symsF F).length - 2)) (zerosF F.length)

section
variable (F : List Int)
theorem usedN_mem (k : Nat) : ∀ x, x ∈ usedN F k ↔ ∃ s : Nat, x = s ∧ s < k ∧ 0 < F.getD s 0 := by
  induction k with
  | zero => intro x; simp [usedN]
  | succ k ih =>
    intro x
    rw [usedN]
    split
    · next h =>
      rw [List.mem_append, List.mem_singleton, ih]
      constructor
      · rintro (⟨s, rfl, h1, h2⟩ | rfl)
        · exact ⟨s, rfl, by omega, h2⟩
        · exact ⟨k, rfl, by omega, h⟩
      · rintro ⟨s, rfl, h1, h2⟩
        rcases Nat.lt_or_ge s k with h3 | h3
        · exact .inl ⟨s, rfl, h3, h2⟩
        · right; congr 1; omega
    · next h =>
      rw [ih]
      constructor
      · rintro ⟨s, rfl, h1, h2⟩
        exact ⟨s, rfl, by omega, h2⟩
      · rintro ⟨s, rfl, h1, h2⟩
        refine ⟨s, rfl, ?_, h2⟩
        rcases Nat.lt_or_ge s k with h3 | h3
        · exact h3
        · have : s = k := by omega
          subst this; exact absurd h2 h
theorem usedN_nodup (k : Nat) : (usedN F k).Nodup := by
  induction k with
  | zero => simp [usedN]
  | succ k ih =>
    rw [usedN]
    split
    · rw [List.nodup_append]
      refine ⟨ih, by simp, fun a ha b hb' => ?_⟩
      rw [usedN_mem] at ha
      obtain ⟨s, rfl, h1, _⟩ := ha
      rw [List.mem_singleton] at hb'
      subst hb'
      omega
    · exact ih
theorem usedN_length (k : Nat) : (usedN F k).length ≤ k := by
  induction k with
  | zero => simp [usedN]
  | succ k ih =>
    rw [usedN]
    split
    · rw [List.length_append]; simp; omega
    · omega
theorem syms_perm : (usedF F).Perm (symsF F) := (sortF_law _).2.perm
theorem syms_srt : Srt (frq F) (symsF F) := (sortF_law _).1
theorem syms_mem (x : Int) : x ∈ symsF F ↔ ∃ s : Nat, x = s ∧ s < F.length ∧ 0 < F.getD s 0 := by
  rw [← (syms_perm F).mem_iff]
  exact usedN_mem F _ x
theorem syms_nodup : (symsF F).Nodup := (syms_perm F).nodup_iff.1 (usedN_nodup F _)
theorem syms_length : (symsF F).length = (usedF F).length := (syms_perm F).length_eq.symm
theorem syms_le : (symsF F).length ≤ F.length := by rw [syms_length]; exact usedN_length F _
theorem base_length : (baseF F).length = (symsF F).length := by unfold baseF; simp
theorem base_law : Base (baseF F) := by
  refine ⟨?_, ?_, ?_⟩
  · intro c hc
    obtain ⟨s, _, rfl⟩ := List.mem_map.1 hc
    rfl
  · exact List.pairwise_map.2 (syms_srt F)
  · intro c hc
    obtain ⟨s, hs, rfl⟩ := List.mem_map.1 hc
    obtain ⟨n, rfl, _, h⟩ := (syms_mem F s).1 hs
    show 1 ≤ F.getD (Int.toNat n) 0
    rw [Int.toNat_natCast]
    omega
end

/-! ### bumps -/
theorem bump1_length (o : List Int) (s : Int) : (bump1 o s).length = o.length := by simp [bump1]
theorem bumpF_length (l : List Int) : ∀ o, (bumpF o l).length = o.length := by
  induction l with
  | nil => intro _; rfl
  | cons s t ih => intro o; show (bumpF (bump1 o s) t).length = _; rw [ih, bump1_length]
theorem bump1_get (o : List Int) (s j : Nat) (hs : s < o.length) : (bump1 o s).getD j 0 = o.getD j 0 + if j = s then 1 else 0 := by
  unfold bump1
  simp only [List.getD_eq_getElem?_getD, Int.toNat_natCast]
  by_cases h : j = s
  · subst h
    rw [List.getElem?_set_self hs, if_pos rfl]
    rfl
  · rw [List.getElem?_set_ne (fun e => h e.symm), if_neg h, Int.add_zero]
theorem bumpF_get (l : List Int) : ∀ (o : List Int) (j : Nat), (∀ x ∈ l, ∃ s : Nat, x = s ∧ s < o.length) → (bumpF o l).getD j 0 = o.getD j 0 + (l.countP fun x => decide (x = (j : Int)) : Nat) := by
  induction l with
  | nil => intro o j _; simp [bumpF]
  | cons x t ih =>
    intro o j h
    obtain ⟨s, rfl, hs⟩ := h x (by simp)
    show (bumpF (bump1 o s) t).getD j 0 = _
    rw [ih _ j (fun x hx => by rw [bump1_length]; exact h x (by simp [hx])), bump1_get o s j hs, List.countP_cons]
    by_cases hj : j = s
    · subst hj; simp; omega
    · have : ¬ ((s : Int) = j) := by omega
      simp [hj, this]
theorem count_nodup {l : List Int} (h : l.Nodup) (x : Int) : (l.countP fun y => decide (y = x)) = if x ∈ l then 1 else 0 := by
  induction l with
  | nil => simp
  | cons a t ih =>
    rw [List.nodup_cons] at h
    rw [List.countP_cons, ih h.2]
    by_cases ha : a = x
    · subst ha
      simp [h.1]
    · have : ¬ x = a := fun e => ha e.symm
      simp [ha, this]

/-- The lengths, and the lengths by place. -/
structure OutRel (F o : List Int) (ls : List Nat) : Prop where
  len : o.length = F.length
  lsl : ls.length = (symsF F).length
  get : ∀ k (h : k < (symsF F).length), o.getD ((symsF F)[k]).toNat 0 = ls.getD k 0
  zero : ∀ j : Nat, (j : Int) ∉ symsF F → o.getD j 0 = 0
theorem out_start (F : List Int) : OutRel F (zerosF F.length) (List.replicate (symsF F).length 0) := by
  have hz : ∀ j, (zerosF F.length).getD j 0 = 0 := by
    intro j
    unfold zerosF
    rw [List.getD_eq_getElem?_getD, List.getElem?_replicate]
    split <;> rfl
  exact ⟨by simp [zerosF], by simp, fun k _ => by rw [hz, rep_zero]; rfl, fun j _ => hz j⟩
theorem nodup_idx {l : List Int} (h : l.Nodup) {i j : Nat} (hi : i < l.length) (hj : j < l.length) (e : l[i] = l[j]) : i = j := by
  rcases Nat.lt_trichotomy i j with h1 | h1 | h1
  · exact absurd e (List.pairwise_iff_getElem.1 h i j hi hj h1)
  · exact h1
  · exact absurd e.symm (List.pairwise_iff_getElem.1 h j i hj hi h1)
theorem out_bump {F o : List Int} {ls : List Nat} (h : OutRel F o ls) (c : Nat) : OutRel F (bumpF o ((symsF F).take c)) (addF c ls) := by
  have hin : ∀ x ∈ (symsF F).take c, ∃ s : Nat, x = s ∧ s < o.length := fun x hx => by
    obtain ⟨s, rfl, h1, _⟩ := (syms_mem F x).1 (List.mem_of_mem_take hx)
    exact ⟨s, rfl, by rw [h.len]; exact h1⟩
  have hnd : ((symsF F).take c).Nodup := (syms_nodup F).sublist (List.take_sublist _ _)
  refine ⟨by rw [bumpF_length, h.len], by rw [addF_length, h.lsl], fun k hk => ?_, fun j hj => ?_⟩
  · rw [bumpF_get _ _ _ hin, h.get k hk, addF_get, count_nodup hnd]
    have hpos : (((symsF F)[k]).toNat : Int) = (symsF F)[k] := by
      obtain ⟨s, e, _⟩ := (syms_mem F ((symsF F)[k])).1 (List.getElem_mem _)
      rw [e]; rfl
    rw [hpos]
    by_cases hc : k < c
    · have h1 : k < c ∧ k < ls.length := ⟨hc, by rw [h.lsl]; exact hk⟩
      have h2 : (symsF F)[k] ∈ (symsF F).take c := List.mem_take_iff_getElem.2 ⟨k, by omega, rfl⟩
      rw [if_pos h1, if_pos h2]
      simp
    · have h1 : ¬ (k < c ∧ k < ls.length) := fun hh => hc hh.1
      have h2 : ¬ (symsF F)[k] ∈ (symsF F).take c := by
        intro hm
        obtain ⟨j, hj, e⟩ := List.mem_take_iff_getElem.1 hm
        have := nodup_idx (syms_nodup F) (by omega) hk e
        omega
      rw [if_neg h1, if_neg h2]
      simp
  · rw [bumpF_get _ _ _ hin, h.zero j hj, count_nodup hnd, if_neg (fun hm => hj (List.mem_of_mem_take hm))]
    simp
theorem out_fold {F : List Int} (cs : List Nat) : ∀ {o : List Int} {ls : List Nat}, OutRel F o ls → OutRel F (outF (symsF F) cs o) (lensF cs ls) := by
  induction cs with
  | nil => intro o ls h; exact h
  | cons c cs ih => intro o ls h; exact ih (out_bump h c)

/-! ### weights and costs, over symbols -/
def wtF (x : Int) : Int := if 0 < x then 2 ^ (15 - x.toNat) else 0
theorem sum_range (l : List Int) (f : Int → Int) : sumF f l = sumF (fun j : Nat => f (l.getD j 0)) (List.range l.length) := by
  have e : l = (List.range l.length).map (fun j => l.getD j 0) := by
    refine List.ext_getElem (by simp) fun i h1 h2 => ?_
    simp [List.getD_eq_getElem?_getD, h1]
  conv => lhs; rw [e]
  rw [sumF_map]
theorem used_range (F : List Int) (k : Nat) : usedN F k = ((List.range k).filter fun s => decide (0 < F.getD s 0)).map Int.ofNat := by
  induction k with
  | zero => rfl
  | succ k ih =>
    rw [usedN, List.range_succ, List.filter_append, List.map_append, ← ih]
    split
    · next h => simp only [List.filter_cons, List.filter_nil, h, decide_true, if_true]; rfl
    · next h => simp only [List.filter_cons, List.filter_nil, h, decide_false]; simp
/-- A sum over all symbols is one over those in use, if nothing else counts. -/
theorem sum_syms (F : List Int) (f : Nat → Int) (h : ∀ j, j < F.length → ¬ 0 < F.getD j 0 → f j = 0) : sumF f (List.range F.length) = sumF (fun x : Int => f x.toNat) (symsF F) := by
  rw [← sumF_perm (syms_perm F)]
  unfold usedF
  rw [used_range, sumF_map, sumF_filter (fun s => decide (0 < F.getD s 0)) (List.range F.length)]
  have e : sumF f ((List.range F.length).filter fun x => !decide (0 < F.getD x 0)) = 0 := by
    rw [sumF_congr (g := fun _ => 0) (fun j hj => by
      have := List.mem_filter.1 hj
      exact h j (List.mem_range.1 this.1) (by simpa using this.2)), sumF_const]
    simp
  rw [e, Int.add_zero]
  exact sumF_congr fun x _ => by simp
def costF : List Int → List Int → Int
  | a :: F, b :: l => a * b + costF F l
  | _, _ => 0
theorem cost_range (F l : List Int) (h : l.length = F.length) : costF F l = sumF (fun j : Nat => F.getD j 0 * l.getD j 0) (List.range F.length) := by
  induction F generalizing l with
  | nil => cases l <;> rfl
  | cons a F ih =>
    cases l with
    | nil => simp at h
    | cons b l =>
      rw [costF, ih l (by simpa using h), List.length_cons, List.range_succ_eq_map, sumF_cons, sumF_map]
      rfl
theorem getD_self {ls : List Nat} : (List.range ls.length).map (fun k => ls.getD k 0) = ls := by
  refine List.ext_getElem (by simp) fun i h1 h2 => ?_
  simp [List.getD_eq_getElem?_getD, h2]
theorem sum_places {α : Type} (f : α → Int) (l : List α) (g : Nat → Int) (h : ∀ k (hk : k < l.length), f l[k] = g k) : sumF f l = sumF g (List.range l.length) := by
  induction l generalizing g with
  | nil => rfl
  | cons a t ih =>
    rw [List.length_cons, List.range_succ_eq_map, sumF_cons, sumF_cons, sumF_map, ih (fun k => g (k + 1)) (fun k hk => h (k + 1) (by simpa using hk))]
    have := h 0 (by simp)
    simp only [List.getElem_cons_zero] at this
    rw [this]

section
variable {F : List Int} {L : Nat} (hF : ∀ f ∈ F, 0 ≤ f) (hL : 1 ≤ L ∧ L ≤ 15) (hU : (symsF F).length ≤ 2 ^ L)
theorem getD_nonneg (hF : ∀ f ∈ F, 0 ≤ f) (j : Nat) : 0 ≤ F.getD j 0 := by
  rw [List.getD_eq_getElem?_getD]
  rcases Nat.lt_or_ge j F.length with h | h
  · rw [List.getElem?_eq_getElem h]; exact hF _ (List.getElem_mem _)
  · rw [List.getElem?_eq_none h]; exact Int.le_refl _
/-- By which lengths by place the lengths are. -/
theorem lengthsF_rel (F : List Int) (L : Nat) : OutRel F (lengthsF F L) (if (symsF F).length < 2 then addF (symsF F).length (List.replicate (symsF F).length 0) else lensF (cntF (baseF F) (L - 1) (2 * (baseF F).length - 2)) (List.replicate (baseF F).length 0)) := by
  unfold lengthsF
  split
  · have := out_bump (out_start F) (symsF F).length
    rwa [List.take_length] at this
  · rw [base_length]
    exact out_fold _ (out_start F)
theorem lengthsF_length (F : List Int) (L : Nat) : (lengthsF F L).length = F.length := (lengthsF_rel F L).len
theorem out_weight {o : List Int} {ls : List Nat} (h : OutRel F o ls) (h1 : ∀ k, k < ls.length → 1 ≤ ls.getD k 0) : sumF wtF o = kwF ls := by
  rw [sum_range, h.len, sum_syms F (fun j => wtF (o.getD j 0)) (fun j _ hj => by
    show wtF (o.getD j 0) = 0
    rw [h.zero j (fun hm => by
      obtain ⟨s, e, _, h2⟩ := (syms_mem F j).1 hm
      have : j = s := by omega
      subst this; exact hj h2)]; rfl)]
  unfold kwF
  rw [sum_places (fun x : Int => wtF (o.getD x.toNat 0)) (symsF F) (fun k => (2 : Int) ^ (15 - ls.getD k 0)) (fun k hk => ?_), ← h.lsl]
  · conv => rhs; rw [← getD_self (ls := ls), sumF_map]
  · rw [h.get k hk]
    have := h1 k (by rw [h.lsl]; exact hk)
    unfold wtF
    rw [if_pos (by omega)]
    simp
include hL hU
theorem places_ok {ls : List Nat} (hls : ls = if (symsF F).length < 2 then addF (symsF F).length (List.replicate (symsF F).length 0) else lensF (cntF (baseF F) (L - 1) (2 * (baseF F).length - 2)) (List.replicate (baseF F).length 0)) :
    ∀ k, k < (symsF F).length → 1 ≤ ls.getD k 0 ∧ ls.getD k 0 ≤ L := by
  intro k hk
  subst hls
  split
  · rw [addF_get, if_pos ⟨hk, by simpa using hk⟩, rep_zero]
    omega
  · next h =>
    have hw := whole (base_law F) L (by rw [base_length]; omega) hL (by rw [base_length]; exact hU)
    rw [base_length] at hw ⊢
    exact hw.2 k hk
/-- None above the limit; none but of what has frequency none. -/
theorem lengthsF_range (hF : ∀ f ∈ F, 0 ≤ f) (j : Nat) (hj : j < F.length) : 0 ≤ (lengthsF F L).getD j 0 ∧ (lengthsF F L).getD j 0 ≤ L ∧ ((lengthsF F L).getD j 0 = 0 ↔ F.getD j 0 = 0) := by
  obtain ⟨ls, hls⟩ : ∃ ls, ls = if (symsF F).length < 2 then addF (symsF F).length (List.replicate (symsF F).length 0) else lensF (cntF (baseF F) (L - 1) (2 * (baseF F).length - 2)) (List.replicate (baseF F).length 0) := ⟨_, rfl⟩
  have hr := lengthsF_rel F L
  rw [← hls] at hr
  have hp := places_ok (F := F) hL hU hls
  have h0 := getD_nonneg hF j
  by_cases hm : (j : Int) ∈ symsF F
  · obtain ⟨k, hk, e⟩ := List.getElem_of_mem hm
    have hg := hr.get k hk
    rw [e] at hg
    simp only [Int.toNat_natCast] at hg
    have h1 := hp k hk
    obtain ⟨s, e2, _, h2⟩ := (syms_mem F j).1 hm
    have : j = s := by omega
    subst this
    rw [hg]
    omega
  · rw [hr.zero j hm]
    have : ¬ 0 < F.getD j 0 := fun h => hm ((syms_mem F j).2 ⟨j, rfl, hj, h⟩)
    omega
/-- The weight. -/
theorem lengthsF_weight : sumF wtF (lengthsF F L) = if (symsF F).length < 2 then ((symsF F).length : Int) * 2 ^ 14 else 2 ^ 15 := by
  obtain ⟨ls, hls⟩ : ∃ ls, ls = if (symsF F).length < 2 then addF (symsF F).length (List.replicate (symsF F).length 0) else lensF (cntF (baseF F) (L - 1) (2 * (baseF F).length - 2)) (List.replicate (baseF F).length 0) := ⟨_, rfl⟩
  have hr := lengthsF_rel F L
  rw [← hls] at hr
  have hp := places_ok (F := F) hL hU hls
  rw [out_weight hr (fun k hk => (hp k (by rw [← hr.lsl]; exact hk)).1), hls]
  split
  · next h =>
    rw [kw_addF (t := 0) (by simp) (fun k _ => rep_zero _ _) (by omega)]
    have e : kwF (List.replicate (symsF F).length 0) = (symsF F).length * 2 ^ 15 := by
      unfold kwF
      rw [sumF_congr (g := fun _ => (2 : Int) ^ 15) (fun l hl => by rw [(List.mem_replicate.1 hl).2]), sumF_const, List.length_replicate]
    rw [e]
    omega
  · next h =>
    exact (whole (base_law F) L (by rw [base_length]; omega) hL (by rw [base_length]; exact hU)).1
end

/-! ### costs -/
theorem cost_bump1 (F : List Int) : ∀ (o : List Int) (s : Nat), s < o.length → o.length = F.length → costF F (bump1 o s) = costF F o + frq F s := by
  induction F with
  | nil => intro o s h1 h2; simp at h2; subst h2; simp at h1
  | cons a F ih =>
    intro o s h1 h2
    cases o with
    | nil => simp at h1
    | cons b o =>
      cases s with
      | zero =>
        simp [bump1, costF, frq, Int.mul_add]; omega
      | succ s =>
        have := ih o s (by simpa using h1) (by simpa using h2)
        simp only [bump1, Int.toNat_natCast, List.set_cons_succ, List.getD_cons_succ, costF, frq] at this ⊢
        omega
theorem cost_bump (F : List Int) (l : List Int) : ∀ o, o.length = F.length → (∀ x ∈ l, ∃ s : Nat, x = s ∧ s < F.length) → costF F (bumpF o l) = costF F o + sumF (frq F) l := by
  induction l with
  | nil => intro o _ _; simp [bumpF, sumF]
  | cons x t ih =>
    intro o ho h
    obtain ⟨s, rfl, hs⟩ := h x (by simp)
    show costF F (bumpF (bump1 o s) t) = _
    rw [ih _ (by rw [bump1_length, ho]) (fun x hx => h x (by simp [hx])), cost_bump1 F o s (by omega) ho, sumF_cons]
    omega
theorem cost_out (F : List Int) (cs : List Nat) : ∀ o, o.length = F.length → costF F (outF (symsF F) cs o) = costF F o + sumF (fun s => sumF Coin.w ((baseF F).take s)) cs := by
  induction cs with
  | nil => intro o _; simp [outF, sumF]
  | cons c cs ih =>
    intro o ho
    show costF F (outF (symsF F) cs (bumpF o ((symsF F).take c))) = _
    rw [ih _ (by rw [bumpF_length, ho]), cost_bump F _ o ho (fun x hx => by
      obtain ⟨s, rfl, h1, _⟩ := (syms_mem F x).1 (List.mem_of_mem_take hx)
      exact ⟨s, rfl, h1⟩), sumF_cons]
    have e : sumF Coin.w ((baseF F).take c) = sumF (frq F) ((symsF F).take c) := by
      unfold baseF
      rw [← List.map_take, sumF_map]
      rfl
    rw [e]
    omega
theorem cost_zero (F : List Int) : ∀ n, costF F (zerosF n) = 0 := by
  induction F with
  | nil => intro n; cases n <;> rfl
  | cons a F ih =>
    intro n
    cases n with
    | zero => rfl
    | succ n =>
      show a * 0 + costF F (zerosF n) = 0
      rw [ih]; omega
theorem sum_count {α : Type} (f : α → Int) (g : α → Nat) (C : Nat → List α) (l : List α) (hC : ∀ j, C j = l.filter fun x => decide (j < g x)) : ∀ i, (∀ x ∈ l, g x ≤ i) → sumF (fun j => sumF f (C j)) (List.range i) = sumF (fun x => f x * (g x : Int)) l := by
  have key : ∀ i, sumF (fun j => sumF f (C j)) (List.range i) = sumF (fun x => f x * ((min (g x) i : Nat) : Int)) l := by
    intro i
    induction i with
    | zero =>
      rw [sumF_congr (l := l) (g := fun _ => 0) (fun x _ => by simp), sumF_const]; simp [sumF]
    | succ i ih =>
      rw [List.range_succ, sumF_append, ih, sumF_cons, sumF_nil, hC]
      clear ih hC
      induction l with
      | nil => rfl
      | cons x t ih =>
        simp only [sumF_cons, List.filter_cons] at ih ⊢
        by_cases h : i < g x
        · have e1 : min (g x) i = i := by omega
          have e2 : min (g x) (i + 1) = i + 1 := by omega
          rw [e1, e2]
          simp only [h, decide_true, if_true, sumF_cons, Int.natCast_add, Int.mul_add]
          omega
        · have e1 : min (g x) i = g x := by omega
          have e2 : min (g x) (i + 1) = g x := by omega
          rw [e1, e2]
          simp only [h, decide_false]
          simp only [Bool.false_eq_true, if_false]
          omega
  intro i hi
  rw [key i]
  exact sumF_congr fun x hx => by rw [Nat.min_eq_left (hi x hx)]
theorem worth_range (C : Nat → List Coin) : ∀ i, ((worthF C i : Nat) : Int) = sumF (fun j => ((C j).length : Int) * 2 ^ j) (List.range (i + 1)) := by
  intro i
  induction i with
  | zero => simp [worthF, sumF, List.range_succ]
  | succ i ih => rw [worthF, List.range_succ, sumF_append, ← ih]; simp [sumF]
theorem weigh_range (C : Nat → List Coin) : ∀ i, weighF C i = sumF (fun j => sumF Coin.w (C j)) (List.range (i + 1)) := by
  intro i
  induction i with
  | zero => simp [weighF, sumF, List.range_succ]
  | succ i ih => rw [weighF, List.range_succ, sumF_append, ← ih]; simp [sumF]
theorem sum_swap {α β : Type} (f : α → β → Int) (l : List α) (m : List β) : sumF (fun x => sumF (f x) m) l = sumF (fun y => sumF (fun x => f x y) l) m := by
  induction l with
  | nil =>
    have : sumF (fun y => sumF (fun x => f x y) []) m = 0 := by
      exact (sumF_congr (l := m) (g := fun _ => 0) (fun _ _ => rfl)).trans (by rw [sumF_const]; simp)
    rw [this]; rfl
  | cons x t ih =>
    rw [sumF_cons, ih, ← sumF_add]
    exact sumF_congr fun y _ => by rw [sumF_cons]
theorem length_filter_sum {α : Type} (p : α → Bool) (l : List α) (c : Int) : ((l.filter p).length : Int) * c = sumF (fun x => if p x then c else 0) l := by
  induction l with
  | nil => simp [sumF]
  | cons x t ih =>
    rw [sumF_cons, List.filter_cons, ← ih]
    cases p x <;> simp [Int.add_mul] <;> omega
theorem sum_filter_if {α : Type} (p : α → Bool) (f : α → Int) (l : List α) : sumF f (l.filter p) = sumF (fun x => if p x then f x else 0) l := by
  induction l with
  | nil => rfl
  | cons x t ih =>
    rw [sumF_cons, List.filter_cons, ← ih]
    cases p x <;> simp [sumF_cons]
/-- 2^j, for all j from L - l on, below L. -/
theorem pow_tail (L : Nat) : ∀ i l, i ≤ L → sumF (fun j : Nat => if L ≤ j + l then (2 : Int) ^ j else 0) (List.range i) = if L ≤ i + l then 2 ^ i - 2 ^ (L - l) else 0 := by
  intro i
  induction i with
  | zero =>
    intro l _
    simp only [List.range_zero, sumF_nil]
    split
    · next h => rw [show L - l = 0 by omega]; simp
    · rfl
  | succ i ih =>
    intro l h
    rw [List.range_succ, sumF_append, ih l (by omega), sumF_cons, sumF_nil]
    by_cases h1 : L ≤ i + l
    · rw [if_pos h1, if_pos h1, if_pos (by omega), Int.pow_succ]; omega
    · rw [if_neg h1, if_neg h1]
      split
      · next h2 => rw [show L - l = i + 1 by omega]; omega
      · omega
theorem one_tail (L : Nat) (c : Int) : ∀ i l, i ≤ L → l ≤ L → sumF (fun j : Nat => if L ≤ j + l then c else 0) (List.range i) = ((i + l - L : Nat) : Int) * c := by
  intro i
  induction i with
  | zero => intro l _ h; rw [show 0 + l - L = 0 by omega]; simp [sumF]
  | succ i ih =>
    intro l h hl
    rw [List.range_succ, sumF_append, ih l (by omega) hl, sumF_cons, sumF_nil]
    by_cases h1 : L ≤ i + l
    · rw [if_pos h1, show i + 1 + l - L = (i + l - L) + 1 by omega, Int.natCast_add, Int.add_mul]; simp
    · rw [if_neg h1, show i + 1 + l - L = 0 by omega, show i + l - L = 0 by omega]; simp

/-- Nothing costs less. -/
theorem lengthsF_least {F : List Int} {L : Nat} (hF : ∀ f ∈ F, 0 ≤ f) (hL : 1 ≤ L ∧ L ≤ 15) (hU : (symsF F).length ≤ 2 ^ L) {o : List Int} (ho : o.length = F.length)
    (h0 : ∀ j, j < F.length → 0 ≤ o.getD j 0 ∧ o.getD j 0 ≤ L) (h1 : ∀ j, j < F.length → 0 < F.getD j 0 → o.getD j 0 ≠ 0) (hw : sumF wtF o ≤ 2 ^ 15) :
    costF F (lengthsF F L) ≤ costF F o := by
  have hmem : ∀ x ∈ symsF F, 1 ≤ o.getD x.toNat 0 ∧ o.getD x.toNat 0 ≤ L := fun x hx => by
    obtain ⟨s, rfl, hs, hp⟩ := (syms_mem F x).1 hx
    have := h0 s hs; have := h1 s hs hp
    simp only [Int.toNat_natCast]
    omega
  have hcost : costF F o = sumF (fun x : Int => frq F x * o.getD x.toNat 0) (symsF F) := by
    rw [cost_range F o ho, sum_syms F (fun j => F.getD j 0 * o.getD j 0) (fun j _ hj => by
      have := getD_nonneg hF j
      have : F.getD j 0 = 0 := by omega
      show F.getD j 0 * _ = 0
      rw [this]; simp)]
    rfl
  by_cases hN : (symsF F).length < 2
  · have e : costF F (lengthsF F L) = sumF (frq F) (symsF F) := by
      unfold lengthsF
      rw [if_pos hN, cost_bump F _ _ (by simp [zerosF]) (fun x hx => by
        obtain ⟨s, rfl, h1, _⟩ := (syms_mem F x).1 hx
        exact ⟨s, rfl, h1⟩), cost_zero]
      omega
    rw [e, hcost]
    refine sumF_mono fun x hx => ?_
    have h2 := (hmem x hx).1
    obtain ⟨s, rfl, hs, hp⟩ := (syms_mem F x).1 hx
    have h3 : 0 ≤ frq F s := by have : frq F s = F.getD s 0 := rfl
                                omega
    have := Int.mul_le_mul_of_nonneg_left h2 h3
    omega
  · obtain ⟨i, rfl⟩ : ∃ i, L = i + 1 := ⟨L - 1, by omega⟩
    have hn : 2 * (baseF F).length - 2 ≤ (rowsF (baseF F) i).length := by
      have := rowsF_enough (base := baseF F) i (by rw [base_length]; exact hU)
      omega
    have e : costF F (lengthsF F (i + 1)) = sumF Coin.w ((rowsF (baseF F) i).take (2 * (baseF F).length - 2)) := by
      unfold lengthsF
      rw [if_neg hN, cost_out F _ _ (by simp [zerosF]), cost_zero, Nat.add_sub_cancel, ← base_length, taken_sum (base_law F) i _ hn]
      omega
    let C : Nat → List Coin := fun j => ((symsF F).filter fun x => decide (i + 1 ≤ j + (o.getD x.toNat 0).toNat)).map (coinOf F)
    have hC : ∀ j, j ≤ i → (C j).Sublist (baseF F) := fun j _ => List.filter_sublist.map _
    have hweigh : weighF C i = sumF (fun x : Int => frq F x * o.getD x.toNat 0) (symsF F) := by
      rw [weigh_range]
      have e1 : ∀ j ∈ List.range (i + 1), sumF Coin.w (C j) = sumF (fun x : Int => if i + 1 ≤ j + (o.getD x.toNat 0).toNat then frq F x else 0) (symsF F) := fun j _ => by
        simp only [C]
        rw [sumF_map, sum_filter_if]
        exact sumF_congr fun x _ => by simp [coinOf]
      rw [sumF_congr e1, sum_swap]
      refine sumF_congr fun x hx => ?_
      have h2 := hmem x hx
      rw [one_tail (i + 1) (frq F x) (i + 1) _ (Nat.le_refl _) (by omega), Int.mul_comm]
      congr 1
      omega
    have hworth : (2 * (baseF F).length - 2) * 2 ^ i ≤ worthF C i := by
      have hI : (((2 * (baseF F).length - 2) * 2 ^ i : Nat) : Int) ≤ (worthF C i : Nat) := by
        rw [worth_range]
        have e1 : ∀ j ∈ List.range (i + 1), ((C j).length : Int) * 2 ^ j = sumF (fun x : Int => if i + 1 ≤ j + (o.getD x.toNat 0).toNat then (2 : Int) ^ j else 0) (symsF F) := fun j _ => by
          simp only [C]
          rw [List.length_map, length_filter_sum]
          exact sumF_congr fun x _ => by simp
        rw [sumF_congr e1, sum_swap]
        have e2 : ∀ x ∈ symsF F, sumF (fun j : Nat => if i + 1 ≤ j + (o.getD x.toNat 0).toNat then (2 : Int) ^ j else 0) (List.range (i + 1)) = 2 ^ (i + 1) + -(2 ^ (i + 1 - (o.getD x.toNat 0).toNat)) := fun x hx => by
          rw [pow_tail (i + 1) (i + 1) _ (Nat.le_refl _), if_pos (by omega)]
          omega
        rw [sumF_congr e2, sumF_add, sumF_const]
        have e3 : sumF (fun x : Int => wtF (o.getD x.toNat 0)) (symsF F) ≤ 2 ^ 15 := by
          refine Int.le_trans ?_ hw
          rw [sum_range o wtF, ho, ← sumF_perm (syms_perm F)]
          unfold usedF
          rw [used_range, sumF_map, sumF_filter (fun s => decide (0 < F.getD s 0)) (List.range F.length)]
          have h3 : 0 ≤ sumF (fun j : Nat => wtF (o.getD j 0)) ((List.range F.length).filter fun x => !decide (0 < F.getD x 0)) := sumF_nonneg fun x _ => by
            unfold wtF
            split
            · exact Int.le_of_lt (Int.pow_pos (by omega))
            · omega
          have h4 : sumF (fun x : Nat => wtF (o.getD (Int.ofNat x).toNat 0)) ((List.range F.length).filter fun s => decide (0 < F.getD s 0)) = sumF (fun j : Nat => wtF (o.getD j 0)) ((List.range F.length).filter fun s => decide (0 < F.getD s 0)) := sumF_congr fun x _ => by simp
          rw [h4]
          omega
        have e4 : sumF (fun x : Int => wtF (o.getD x.toNat 0)) (symsF F) = sumF (fun x : Int => (2 : Int) ^ (i + 1 - (o.getD x.toNat 0).toNat)) (symsF F) * 2 ^ (15 - (i + 1)) := by
          have hh : ∀ l : List Int, (∀ x ∈ l, 1 ≤ o.getD x.toNat 0 ∧ o.getD x.toNat 0 ≤ (i + 1 : Nat)) → sumF (fun x : Int => wtF (o.getD x.toNat 0)) l = sumF (fun x : Int => (2 : Int) ^ (i + 1 - (o.getD x.toNat 0).toNat)) l * 2 ^ (15 - (i + 1)) := by
            intro l
            induction l with
            | nil => intro _; simp [sumF]
            | cons x t ih =>
              intro h
              rw [sumF_cons, sumF_cons, ih fun y hy => h y (by simp [hy]), Int.add_mul]
              congr 1
              have := h x (by simp)
              unfold wtF
              rw [if_pos (by omega), ← Int.pow_add]
              congr 1
              omega
          exact hh _ hmem
        have e5 : sumF (fun x : Int => -((2 : Int) ^ (i + 1 - (o.getD x.toNat 0).toNat))) (symsF F) = - sumF (fun x : Int => (2 : Int) ^ (i + 1 - (o.getD x.toNat 0).toNat)) (symsF F) := by
          have := sumF_add (f := fun x : Int => (2 : Int) ^ (i + 1 - (o.getD x.toNat 0).toNat)) (g := fun x : Int => -((2 : Int) ^ (i + 1 - (o.getD x.toNat 0).toNat))) (symsF F)
          rw [sumF_congr (l := symsF F) (f := fun x => (2 : Int) ^ (i + 1 - (o.getD x.toNat 0).toNat) + -((2 : Int) ^ (i + 1 - (o.getD x.toNat 0).toNat))) (g := fun _ => 0) (fun x _ => Int.add_right_neg _), sumF_const, Int.mul_zero] at this
          omega
        rw [e5]
        have e6 : sumF (fun x : Int => (2 : Int) ^ (i + 1 - (o.getD x.toNat 0).toNat)) (symsF F) ≤ 2 ^ (i + 1) := by
          rw [e4] at e3
          have e7 : (2 : Int) ^ 15 = 2 ^ (i + 1) * 2 ^ (15 - (i + 1)) := by rw [← Int.pow_add]; congr 1; omega
          rw [e7] at e3
          exact Int.le_of_mul_le_mul_right e3 (Int.pow_pos (by omega))
        rw [base_length]
        have e8 : (((2 * (symsF F).length - 2) * 2 ^ i : Nat) : Int) = ((symsF F).length : Int) * 2 ^ (i + 1) - 2 ^ (i + 1) := by
          have : ((2 * (symsF F).length - 2 : Nat) : Int) = 2 * ((symsF F).length : Int) - 2 := by omega
          rw [Int.natCast_mul, this, Int.natCast_pow, Int.pow_succ, Int.sub_mul, Int.mul_comm (2 : Int) (symsF F).length, Int.mul_assoc, Int.mul_comm (2 ^ i : Int) 2]
          rfl
        rw [e8]
        omega
      exact_mod_cast hI
    have := (least_choice (base_law F) C i hC _ hworth).2
    rw [e, hcost, ← hweigh]
    exact this
end Go.Proofs.Ytfeamlbkogigkaa
