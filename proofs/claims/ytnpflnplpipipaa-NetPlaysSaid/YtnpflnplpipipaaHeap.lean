/-
  Heaps: what is due at times, by (time, number). No program in sight.
-/
import Derived.Test.YtnpflnplpipipaaRow
namespace Go.Proofs.Ytnpflnplpipipaa

/-- A thing that is due at a time, as the k-th that was put. -/
structure It (X : Type) where
  at_ : Int
  k : Int
  x : X
deriving DecidableEq

section
variable {X : Type}
def It.lt (a b : It X) : Prop := a.at_ < b.at_ ∨ (a.at_ = b.at_ ∧ a.k < b.k)
instance (a b : It X) : Decidable (a.lt b) := by unfold It.lt; infer_instance
theorem It.asymm {a b : It X} (h : a.lt b) : ¬ b.lt a := by unfold It.lt at *; omega
theorem It.ntrans {a b c : It X} (h : ¬ a.lt b) (g : ¬ b.lt c) : ¬ a.lt c := by unfold It.lt at *; omega
theorem It.trans {a b c : It X} (h : a.lt b) (g : b.lt c) : a.lt c := by unfold It.lt at *; omega
theorem It.irr (a : It X) : ¬ a.lt a := by unfold It.lt; omega

def par (j : Nat) : Nat := (j - 1) / 2
def HeapF (f : Nat → It X) (n : Nat) : Prop := ∀ j, 0 < j → j < n → ¬ (f j).lt (f (par j))
def UpF (f : Nat → It X) (n i : Nat) : Prop := (∀ j, 0 < j → j < n → j ≠ i → ¬ (f j).lt (f (par j))) ∧ (0 < i → ∀ c, 0 < c → c < n → par c = i → ¬ (f c).lt (f (par i)))
def DnF (f : Nat → It X) (n i : Nat) : Prop := (∀ j, 0 < j → j < n → par j ≠ i → ¬ (f j).lt (f (par j))) ∧ (0 < i → ∀ c, 0 < c → c < n → par c = i → ¬ (f c).lt (f (par i)))
def swp (f : Nat → It X) (i j : Nat) : Nat → It X := fun t => if t = i then f j else if t = j then f i else f t

theorem up_step {f : Nat → It X} {n i : Nat} (h : UpF f n i) (hi : 0 < i) (hn : i < n) (hl : (f i).lt (f (par i))) : UpF (swp f i (par i)) n (par i) := by
  obtain ⟨h1, h2⟩ := h
  have hp : par i < i := by unfold par; omega
  have e1 : swp f i (par i) i = f (par i) := by simp [swp]
  have e2 : swp f i (par i) (par i) = f i := by unfold swp; rw [if_neg (by omega), if_pos rfl]
  have e3 : ∀ t, t ≠ i → t ≠ par i → swp f i (par i) t = f t := fun t ht hq => by unfold swp; rw [if_neg ht, if_neg hq]
  refine ⟨fun j hj hjn hjp => ?_, fun hp0 c hc hcn hcp => ?_⟩
  · by_cases hji : j = i
    · subst hji
      rw [e1, e2]
      exact It.asymm hl
    · rw [e3 j hji hjp]
      by_cases hq : par j = i
      · rw [hq, e1]
        exact h2 hi j hj hjn hq
      · by_cases hq2 : par j = par i
        · rw [hq2, e2]
          intro hx
          exact h1 j hj hjn hji (by rw [hq2]; exact It.trans hx hl)
        · rw [e3 _ hq hq2]
          exact h1 j hj hjn hji
  · have hpp : par (par i) < par i := by unfold par at *; omega
    rw [e3 (par (par i)) (by omega) (by omega)]
    have hb := h1 (par i) hp0 (by omega) (by omega)
    by_cases hci : c = i
    · subst hci
      rw [e1]
      exact hb
    · have hcp2 : c ≠ par i := by intro e; rw [e] at hcp; omega
      rw [e3 c hci hcp2]
      have := h1 c hc hcn hci
      rw [hcp] at this
      exact It.ntrans this hb
theorem up_done {f : Nat → It X} {n i : Nat} (h : UpF f n i) (hl : i = 0 ∨ ¬ (f i).lt (f (par i))) : HeapF f n := by
  intro j hj hjn
  by_cases hji : j = i
  · subst hji
    rcases hl with h0 | h0
    · omega
    · exact h0
  · exact h.1 j hj hjn hji
theorem up_start {f : Nat → It X} {n : Nat} (h : HeapF f n) : UpF f (n + 1) n :=
  ⟨fun j hj hjn hne => h j hj (by omega), fun hn c hc hcn hcp => by unfold par at hcp; omega⟩

theorem dn_step {f : Nat → It X} {n i c : Nat} (h : DnF f n i) (hc : 0 < c) (hcn : c < n) (hcp : par c = i) (hmin : ∀ d, 0 < d → d < n → par d = i → ¬ (f d).lt (f c)) (hl : (f c).lt (f i)) : DnF (swp f i c) n c := by
  obtain ⟨h1, h2⟩ := h
  have hci : i < c := by unfold par at hcp; omega
  have e1 : swp f i c i = f c := by simp [swp]
  have e2 : swp f i c c = f i := by unfold swp; rw [if_neg (by omega), if_pos rfl]
  have e3 : ∀ t, t ≠ i → t ≠ c → swp f i c t = f t := fun t ht hq => by unfold swp; rw [if_neg ht, if_neg hq]
  refine ⟨fun j hj hjn hjp => ?_, fun _ d hd hdn hdp => ?_⟩
  · by_cases hjc : j = c
    · subst hjc
      rw [e2, hcp, e1]
      exact It.asymm hl
    · by_cases hq : par j = i
      · have hji : j ≠ i := by intro e; subst e; unfold par at hq; omega
        rw [e3 j hji hjc, hq, e1]
        exact hmin j hj hjn hq
      · by_cases hji : j = i
        · subst hji
          have hpj : par j < j := by unfold par; omega
          rw [e1, e3 (par j) (by omega) (by omega)]
          exact h2 hj c hc hcn hcp
        · rw [e3 j hji hjc, e3 _ hq hjp]
          exact h1 j hj hjn hq
  · have hdc : c < d := by unfold par at hdp; omega
    rw [hcp, e1, e3 d (by omega) (by omega)]
    have := h1 d hd hdn (by omega)
    rw [hdp] at this
    exact this
theorem dn_done {f : Nat → It X} {n i : Nat} (h : DnF f n i) (hl : (∀ d, 0 < d → d < n → par d ≠ i) ∨ ∃ c, ¬ (f c).lt (f i) ∧ ∀ d, 0 < d → d < n → par d = i → ¬ (f d).lt (f c)) : HeapF f n := by
  intro j hj hjn
  by_cases hq : par j = i
  · rcases hl with h0 | ⟨c, hc, hm⟩
    · exact absurd hq (h0 j hj hjn)
    · rw [hq]
      exact It.ntrans (hm j hj hjn hq) hc
  · exact h.1 j hj hjn hq
theorem dn_start {f g : Nat → It X} {n : Nat} (h : HeapF f (n + 1)) (hg : ∀ j, 0 < j → j < n → g j = f j) : DnF g n 0 :=
  ⟨fun j hj hjn hp => by rw [hg j hj hjn, hg (par j) (by omega) (by unfold par; omega)]; exact h j hj (by omega), fun h0 => absurd h0 (by omega)⟩
theorem heap_min {f : Nat → It X} {n : Nat} (h : HeapF f n) : ∀ j, j < n → ¬ (f j).lt (f 0) := by
  intro j
  induction j using Nat.strongRecOn with
  | _ j ih =>
    intro hj
    by_cases h0 : j = 0
    · subst h0; exact It.irr _
    · have hp : par j < j := by unfold par; omega
      exact It.ntrans (h j (by omega) hj) (ih _ hp (by omega))

/-! lists -/
variable [Inhabited X]
instance : Inhabited (It X) := ⟨⟨0, 0, default⟩⟩
def fn (m : List (It X)) : Nat → It X := fun j => m.getD j default
theorem fn_get {m : List (It X)} {i : Nat} {a : It X} (h : m[i]? = some a) : fn m i = a := by simp [fn, List.getD, h]
theorem get_fn {m : List (It X)} {i : Nat} (h : i < m.length) : m[i]? = some (fn m i) := by simp [fn, List.getD, h]
theorem fn_set {m : List (It X)} {i : Nat} (hi : i < m.length) (a : It X) (j : Nat) : fn (m.set i a) j = if j = i then a else fn m j := by
  unfold fn List.getD
  rw [List.getElem?_set]
  by_cases h : i = j
  · subst h; simp [hi]
  · rw [if_neg h, if_neg (Ne.symm h)]
def swapL (m : List (It X)) (i j : Nat) : List (It X) := (m.set i (fn m j)).set j (fn m i)
theorem swapL_length (m : List (It X)) (i j : Nat) : (swapL m i j).length = m.length := by simp [swapL]
theorem fn_swapL {m : List (It X)} {i j : Nat} (hi : i < m.length) (hj : j < m.length) (hij : i ≠ j) : fn (swapL m i j) = swp (fn m) i j := by
  funext t
  unfold swapL swp
  rw [fn_set (by simpa using hj), fn_set hi]
  by_cases h1 : t = j
  · subst h1; rw [if_pos rfl, if_neg (Ne.symm hij), if_pos rfl]
  · rw [if_neg h1, if_neg h1]
theorem swapL_perm {m : List (It X)} {i j : Nat} (hi : i < m.length) (hj : j < m.length) : (swapL m i j).Perm m := by
  have h := Array.swap_perm (xs := m.toArray) (i := i) (j := j) (by simpa using hi) (by simpa using hj)
  have h2 := h.toList
  have e : (m.toArray.swap i j (by simpa using hi) (by simpa using hj)).toList = swapL m i j := by
    apply List.ext_getElem?
    intro t
    rw [Array.getElem?_toList, Array.getElem?_swap]
    unfold swapL
    rw [List.getElem?_set, List.getElem?_set]
    have a1 := get_fn hi
    have a2 := get_fn hj
    have b1 : m[i] = fn m i := by simp [fn, List.getD, hi]
    have b2 : m[j] = fn m j := by simp [fn, List.getD, hj]
    by_cases h1 : j = t
    · subst h1
      simp [hj, b1]
    · by_cases h3 : i = t
      · subst h3
        simp [h1, hi, b2]
      · simp [h1, h3]
  rw [e] at h2
  simpa using h2
def Heap (m : List (It X)) : Prop := HeapF (fn m) m.length
theorem Heap.least {m : List (It X)} (h : Heap m) {a : It X} (ha : m[0]? = some a) : ∀ y ∈ m, ¬ y.lt a := by
  intro y hy
  obtain ⟨j, hj, rfl⟩ := List.getElem_of_mem hy
  have := heap_min h j hj
  rw [fn_get ha, fn_get (List.getElem?_eq_getElem hj)] at this
  exact this
theorem fn_append {m : List (It X)} (r : List (It X)) {j : Nat} (h : j < m.length) : fn (m ++ r) j = fn m j := by
  unfold fn List.getD
  rw [List.getElem?_append_left h]
theorem heap_snoc {m : List (It X)} (h : Heap m) (a : It X) : UpF (fn (m ++ [a])) (m ++ [a]).length m.length := by
  have h2 : HeapF (fn (m ++ [a])) m.length := fun j hj hjn => by
    rw [fn_append _ hjn, fn_append _ (show par j < m.length by unfold par; omega)]
    exact h j hj hjn
  simpa using up_start h2
/-- The last one laid upon the first. -/
theorem heap_drop {m : List (It X)} {n : Nat} (h : Heap m) (hl : m.length = n + 1) (b : It X) : DnF (fn ((m.set 0 b).take n)) n 0 := by
  refine dn_start (f := fn m) (by rw [← hl]; exact h) fun j hj hjn => ?_
  unfold fn List.getD
  rw [List.getElem?_take, if_pos hjn, List.getElem?_set, if_neg (by omega)]
end

section
variable {X : Type}
theorem drop_perm {m : List (It X)} {n : Nat} {a b : It X} (hl : m.length = n + 1) (ha : m[0]? = some a) (hb : m[n]? = some b) : (a :: (m.set 0 b).take n).Perm m := by
  match m, hl with
  | x :: r, hl =>
    simp at ha hl
    subst ha
    cases n with
    | zero =>
      have : r = [] := List.eq_nil_of_length_eq_zero hl
      subst this
      simp
    | succ n =>
      simp only [List.set_cons_zero, List.take_succ_cons]
      refine List.Perm.cons _ ?_
      have hb' : r[n]? = some b := by simpa using hb
      have e : r = r.take n ++ [b] := by
        have h1 := List.take_append_drop n r
        have hn : n < r.length := by omega
        rw [List.drop_eq_getElem_cons hn, List.drop_eq_nil_of_le (by omega)] at h1
        rw [List.getElem?_eq_getElem hn] at hb'
        rw [Option.some.inj hb'] at h1
        exact h1.symm
      conv => rhs; rw [e]
      exact (List.perm_append_comm (l₁ := [b]) (l₂ := r.take n))
/-- The least of those that are waiting, by its place. -/
theorem least_perm {M l' : List (It X)} {a m : It X} {j : Nat} (hp : (a :: l').Perm M) (hj : M[j]? = some m) (hm : ∀ y ∈ M, ¬ y.lt m) (ha : ∀ y ∈ M, ¬ y.lt a) (hk : M.Pairwise fun x y => x.k ≠ y.k) :
    a = m ∧ l'.Perm (M.eraseIdx j) := by
  have ham : a ∈ M := hp.subset (List.mem_cons_self ..)
  have hmm : m ∈ M := List.mem_of_getElem? hj
  have h1 := hm a ham
  have h2 := ha m hmm
  have hkk : a.k = m.k := by unfold It.lt at h1 h2; omega
  have hinj : ∀ x ∈ M, ∀ y ∈ M, x.k = y.k → x = y := by
    intro x hx y hy e
    obtain ⟨i, hi, rfl⟩ := List.getElem_of_mem hx
    obtain ⟨t, ht, rfl⟩ := List.getElem_of_mem hy
    rcases Nat.lt_trichotomy i t with h | h | h
    · exact absurd e (List.pairwise_iff_getElem.1 hk i t hi ht h)
    · subst h; rfl
    · exact absurd e.symm (List.pairwise_iff_getElem.1 hk t i ht hi h)
  have e := hinj a ham m hmm hkk
  subst e
  refine ⟨rfl, ?_⟩
  have h3 := front_perm M j a hj
  exact List.Perm.cons_inv (hp.trans h3)
end
end Go.Proofs.Ytnpflnplpipipaa
