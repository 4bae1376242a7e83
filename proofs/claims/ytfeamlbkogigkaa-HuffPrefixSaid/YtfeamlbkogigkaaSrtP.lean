/-
  Stable sorts, plainly: sorted lists, lists that are alike key by key. No program in sight.
-/
import Derived.Test.YtfeamlbkogigkaaRec
namespace Go.Proofs.Ytfeamlbkogigkaa

section
variable {α : Type} (key : α → Int)
/-- Sorted by the key. -/
def Srt (l : List α) : Prop := l.Pairwise fun x y => key x ≤ key y
/-- Alike, key by key. -/
def StEq (l m : List α) : Prop := ∀ k : Int, l.filter (fun x => decide (key x = k)) = m.filter (fun x => decide (key x = k))
variable {key}
theorem StEq.refl (l : List α) : StEq key l l := fun _ => rfl
theorem StEq.symm {l m : List α} (h : StEq key l m) : StEq key m l := fun k => (h k).symm
theorem StEq.trans {l m n : List α} (h : StEq key l m) (g : StEq key m n) : StEq key l n := fun k => (h k).trans (g k)
theorem StEq.app {a b c d : List α} (h : StEq key a b) (g : StEq key c d) : StEq key (a ++ c) (b ++ d) := fun k => by
  rw [List.filter_append, List.filter_append, h k, g k]
/-- Two neighbours change places, where the first are all greater. -/
theorem StEq.turn {x y : List α} (h : ∀ a ∈ x, ∀ b ∈ y, key b < key a) : StEq key (x ++ y) (y ++ x) := fun k => by
  rw [List.filter_append, List.filter_append]
  by_cases hx : ∃ a ∈ x, key a = k
  · obtain ⟨a, ha, hk⟩ := hx
    have : y.filter (fun z => decide (key z = k)) = [] := List.filter_eq_nil_iff.2 fun b hb => by
      have := h a ha b hb
      simp; omega
    rw [this]; simp
  · have : x.filter (fun z => decide (key z = k)) = [] := List.filter_eq_nil_iff.2 fun b hb => by
      simp only [decide_eq_true_eq]
      exact fun e => hx ⟨b, hb, e⟩
    rw [this]; simp
theorem StEq.mem {l m : List α} (h : StEq key l m) {x : α} (hx : x ∈ l) : x ∈ m := by
  have : x ∈ l.filter (fun z => decide (key z = key x)) := List.mem_filter.2 ⟨hx, by simp⟩
  rw [h] at this
  exact (List.mem_filter.1 this).1
theorem StEq.nil {l : List α} (h : StEq key [] l) : l = [] := by
  cases l with
  | nil => rfl
  | cons a l => have := h.symm.mem (x := a) (by simp); simp at this
theorem Srt.app {a b : List α} (ha : Srt key a) (hb : Srt key b) (h : ∀ x ∈ a, ∀ y ∈ b, key x ≤ key y) : Srt key (a ++ b) := List.pairwise_append.2 ⟨ha, hb, h⟩
theorem Srt.left {a b : List α} (h : Srt key (a ++ b)) : Srt key a := (List.pairwise_append.1 h).1
theorem Srt.right {a b : List α} (h : Srt key (a ++ b)) : Srt key b := (List.pairwise_append.1 h).2.1
theorem Srt.across {a b : List α} (h : Srt key (a ++ b)) : ∀ x ∈ a, ∀ y ∈ b, key x ≤ key y := (List.pairwise_append.1 h).2.2
/-- There is but one. -/
theorem StEq.unique : ∀ {l m : List α}, Srt key l → Srt key m → StEq key l m → l = m := by
  intro l
  induction l with
  | nil => intro m _ _ h; exact h.nil.symm
  | cons a l ih =>
    intro m hl hm h
    cases m with
    | nil => have := h.symm.nil; cases this
    | cons b m =>
      have hab : key a = key b := by
        have h1 := h.mem (x := a) (by simp)
        have h2 := h.symm.mem (x := b) (by simp)
        have k1 : key b ≤ key a := by
          rcases List.mem_cons.1 h1 with e | h1
          · rw [e]; exact Int.le_refl _
          · exact (List.pairwise_cons.1 hm).1 a h1
        have k2 : key a ≤ key b := by
          rcases List.mem_cons.1 h2 with e | h2
          · rw [e]; exact Int.le_refl _
          · exact (List.pairwise_cons.1 hl).1 b h2
        omega
      have hk := h (key a)
      rw [List.filter_cons_of_pos (by simp), List.filter_cons_of_pos (by simp [hab])] at hk
      injection hk with e1 e2
      subst e1
      rw [ih (List.pairwise_cons.1 hl).2 (List.pairwise_cons.1 hm).2 (fun k => ?_)]
      have hk' := h k
      by_cases he : key a = k
      · rw [List.filter_cons_of_pos (by simp [he]), List.filter_cons_of_pos (by simp [he])] at hk'
        injection hk'
      · rwa [List.filter_cons_of_neg (by simpa using he), List.filter_cons_of_neg (by simpa using he)] at hk'
theorem StEq.perm : ∀ {l m : List α}, StEq key l m → l.Perm m := by
  intro l
  induction l with
  | nil => intro m h; rw [h.nil]
  | cons a l ih =>
    intro m h
    have hk := h (key a)
    rw [List.filter_cons_of_pos (by simp)] at hk
    obtain ⟨s, t, rfl, hs, _, ht⟩ := List.filter_eq_cons_iff.1 hk.symm
    refine ((ih (fun k => ?_)).cons a).trans List.perm_middle.symm
    have hk' := h k
    rw [List.filter_append] at hk' ⊢
    by_cases he : key a = k
    · rw [List.filter_cons_of_pos (by simp [he]), List.filter_cons_of_pos (by simp [he])] at hk'
      have hs0 : s.filter (fun x => decide (key x = k)) = [] := List.filter_eq_nil_iff.2 fun x hx => by
        have := hs x hx
        rw [he] at this
        exact this
      rw [hs0, List.nil_append] at hk' ⊢
      injection hk'
    · rwa [List.filter_cons_of_neg (by simpa using he), List.filter_cons_of_neg (by simpa using he)] at hk'
theorem StEq.length {l m : List α} (h : StEq key l m) : l.length = m.length := h.perm.length_eq

/-- The sort. -/
def insF (key : α → Int) (x : α) : List α → List α
  | [] => [x]
  | y :: l => if key x < key y then x :: y :: l else y :: insF key x l
def sortF (key : α → Int) (l : List α) : List α := l.foldl (fun r x => insF key x r) []
theorem insF_mem {x y : α} : ∀ {l : List α}, y ∈ insF key x l → y = x ∨ y ∈ l := by
  intro l
  induction l with
  | nil => intro h; simp [insF] at h; exact .inl h
  | cons z l ih =>
    intro h
    unfold insF at h
    split at h
    · simp at h; rcases h with h | h | h
      · exact .inl h
      · exact .inr (by simp [h])
      · exact .inr (by simp [h])
    · rcases List.mem_cons.1 h with h | h
      · exact .inr (by simp [h])
      · rcases ih h with h | h
        · exact .inl h
        · exact .inr (by simp [h])
theorem insF_srt {x : α} : ∀ {l : List α}, Srt key l → Srt key (insF key x l) := by
  intro l
  induction l with
  | nil => intro _; exact List.pairwise_singleton ..
  | cons y l ih =>
    intro h
    have h' := List.pairwise_cons.1 h
    unfold insF
    split
    · next hlt =>
      refine List.pairwise_cons.2 ⟨fun z hz => ?_, h⟩
      rcases List.mem_cons.1 hz with rfl | hz
      · omega
      · have := h'.1 z hz; omega
    · next hlt =>
      refine List.pairwise_cons.2 ⟨fun z hz => ?_, ih h'.2⟩
      rcases insF_mem hz with rfl | hz
      · omega
      · exact h'.1 z hz
theorem insF_alike {x : α} : ∀ {l : List α}, Srt key l → StEq key (l ++ [x]) (insF key x l) := by
  intro l
  induction l with
  | nil => intro _; exact StEq.refl _
  | cons y l ih =>
    intro h
    have h' := List.pairwise_cons.1 h
    unfold insF
    split
    · next hlt =>
      have := StEq.turn (key := key) (x := y :: l) (y := [x]) (fun a ha b hb => by
        simp at hb; subst hb
        rcases List.mem_cons.1 ha with rfl | ha
        · exact hlt
        · have := h'.1 a ha; omega)
      simpa using this
    · exact (StEq.refl [y]).app (ih h'.2)
theorem sortF_law (l : List α) : Srt key (sortF key l) ∧ StEq key l (sortF key l) := by
  unfold sortF
  have key2 : ∀ (l r : List α), Srt key r → Srt key (l.foldl (fun r x => insF key x r) r) ∧ StEq key (r ++ l) (l.foldl (fun r x => insF key x r) r) := by
    intro l
    induction l with
    | nil => intro r hr; exact ⟨hr, by rw [List.append_nil]; exact StEq.refl _⟩
    | cons x l ih =>
      intro r hr
      obtain ⟨h1, h2⟩ := ih (insF key x r) (insF_srt hr)
      refine ⟨h1, StEq.trans ?_ h2⟩
      have := (insF_alike (x := x) hr).app (StEq.refl (key := key) l)
      simpa using this
  exact key2 l [] List.Pairwise.nil
theorem sortF_unique {l m : List α} (h1 : Srt key m) (h2 : StEq key l m) : m = sortF key l :=
  StEq.unique h1 (sortF_law l).1 (h2.symm.trans (sortF_law l).2)

/-- Sorted in blocks of so many. -/
def Blk (key : α → Int) (b : Nat) (l : List α) : Prop := ∀ i j x y, i < j → i / b = j / b → l[i]? = some x → l[j]? = some y → key x ≤ key y
/-- The merge's law: two sorted parts become one. -/
def Mrg (key : α → Int) (x y z : List α) : Prop := Srt key z ∧ StEq key (x ++ y) z
theorem Mrg.two {x1 x2 y1 y2 m1 m2 : List α} (h1 : Mrg key x1 y1 m1) (h2 : Mrg key x2 y2 m2) (hx : Srt key (x1 ++ x2)) (hy : Srt key (y1 ++ y2)) (ha : ∀ a ∈ x2, ∀ b ∈ y1, key b < key a) (hb : ∀ a ∈ x1, ∀ b ∈ y2, key a ≤ key b) :
    Mrg key (x1 ++ x2) (y1 ++ y2) (m1 ++ m2) := by
  constructor
  · refine h1.1.app h2.1 fun a ha' b hb' => ?_
    have ha' := h1.2.symm.mem ha'
    have hb' := h2.2.symm.mem hb'
    rcases List.mem_append.1 ha' with ha' | ha' <;> rcases List.mem_append.1 hb' with hb' | hb'
    · exact hx.across a ha' b hb'
    · exact hb a ha' b hb'
    · have := ha b hb' a ha'; omega
    · exact hy.across a ha' b hb'
  · refine StEq.trans ?_ (h1.2.app h2.2)
    have := (StEq.refl (key := key) x1).app ((StEq.turn ha).app (StEq.refl y2))
    simpa using this
theorem Mrg.left {x : List α} (h : Srt key x) : Mrg key x [] x := ⟨h, by rw [List.append_nil]; exact StEq.refl _⟩
theorem Mrg.right {y : List α} (h : Srt key y) : Mrg key [] y y := ⟨h, StEq.refl _⟩
/-- One goes between. -/
theorem Mrg.one_left {x : α} {y1 y2 : List α} (hy : Srt key (y1 ++ y2)) (h1 : ∀ b ∈ y1, key b < key x) (h2 : ∀ b ∈ y2, key x ≤ key b) : Mrg key [x] (y1 ++ y2) (y1 ++ x :: y2) := by
  constructor
  · refine hy.left.app (List.pairwise_cons.2 ⟨h2, hy.right⟩) fun a ha b hb => ?_
    rcases List.mem_cons.1 hb with rfl | hb
    · have := h1 a ha; omega
    · exact hy.across a ha b hb
  · have := (StEq.turn (key := key) (x := [x]) (y := y1) (fun a ha b hb => by simp at ha; subst ha; exact h1 b hb)).app (StEq.refl y2)
    simpa using this
theorem Mrg.one_right {y : α} {x1 x2 : List α} (hx : Srt key (x1 ++ x2)) (h1 : ∀ b ∈ x1, key b ≤ key y) (h2 : ∀ b ∈ x2, key y < key b) : Mrg key (x1 ++ x2) [y] (x1 ++ y :: x2) := by
  constructor
  · refine hx.left.app (List.pairwise_cons.2 ⟨fun b hb => by have := h2 b hb; omega, hx.right⟩) fun a ha b hb => ?_
    rcases List.mem_cons.1 hb with rfl | hb
    · exact h1 a ha
    · exact hx.across a ha b hb
  · have := (StEq.refl (key := key) x1).app (StEq.turn (key := key) (x := x2) (y := [y]) (fun a ha b hb => by simp at hb; subst hb; exact h2 a ha))
    simpa using this
end
def cmpI (a b : Int) : Int := if a < b then -1 else if b < a then 1 else 0
theorem cmpI_lt (a b : Int) : decide (cmpI a b < 0) = decide (a < b) := by
  unfold cmpI
  split
  · simp [*]
  · split <;> simp [*]
theorem last_split {α : Type} (l : List α) (h : 0 < l.length) : ∃ a x, l = a ++ [x] := by
  refine ⟨l.dropLast, l.getLast (by intro e; subst e; simp at h), ?_⟩
  exact (List.dropLast_concat_getLast _).symm
def headIs (id : Nat) : Code → Bool
  | .region i _ _ => i == id
  | .seq a _ => headIs id a
  | _ => false
/-- Of a text, from a region on. -/
def fromR (id : Nat) : Code → Option Code
  | .seq a b => if headIs id a then some (.seq a b) else match fromR id a with
    | some c => some c
    | none => fromR id b
  | .cond _ a b => match fromR id a with
    | some c => some c
    | none => fromR id b
  | .block _ c => fromR id c
  | .loop c => fromR id c
  | .scope c => fromR id c
  | _ => none
end Go.Proofs.Ytfeamlbkogigkaa
