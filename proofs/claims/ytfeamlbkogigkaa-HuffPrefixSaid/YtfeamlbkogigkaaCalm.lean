/-
  A region that draws its order, all of whose operations but the last few yield values that are known, and keep a condition S on the world ('calm'): calls too. Then the order does not matter. No program in sight.
-/
import Derived.Orders
import Derived.Tactics
import Derived.KernelRfl
import Derived.StillTactics
namespace Go.Proofs.Ytfeamlbkogigkaa

/-- The operation waits for the k-th. -/
def waits (o : Oper) (k : Nat) : Bool := o.after.any fun e => Region.binds .any e && e.on == k
def isSelect : Op → Bool | .select _ _ => true | _ => false

/-- What the new ones write nobody ahead of the n-th looks at. -/
def newOk (ops : Array Oper) (n : Nat) (nw : List Nat) : Bool :=
  nw.all fun k => decide (k < n) && match ops[k]? with
    | none => true
    | some ok => ok.guard.isNone && match ok.dst with
      | none => true
      | some d => (List.range n).all fun j => match ops[j]? with
        | none => true
        | some oj => !(oj.looksAt ops).contains d

/-- The ones that may be taken ahead, in their order: they wait for nobody but one another. -/
def preOk (ops : Array Oper) (n : Nat) (nw : List Nat) : List Nat → List Nat → Bool
  | _, [] => true
  | done, p :: r => decide (p < n) && !nw.contains p && !done.contains p && (match ops[p]? with
    | none => false
    | some o => o.guard.isNone && o.after.all fun e => !Region.binds .any e || done.contains e.on) && preOk ops n nw (p :: done) r

/-- What is asked of a region's text: whoever reads what another one writes waits for it, or is waited for by it; the operations from n on come last, in their order. -/
def calmOk (ops : Array Oper) (n : Nat) (nw : List Nat := []) (pre : List Nat := []) : Bool :=
  decide (n ≤ ops.size) && (newOk ops n nw && preOk ops n nw [] pre) &&
  (List.range ops.size).all fun j => match ops[j]? with
    | none => true
    | some oj => !isSelect oj.op && oj.after.all (fun e => !Region.binds .any e || decide (e.on < j)) &&
      (decide (n ≤ j) || (List.range n).all fun k => match ops[k]? with
        | none => true
        | some ok => match ok.dst with
          | none => true
          | some d => if k = j then !(oj.looksAt ops).contains d else oj.dst != some d && (!(oj.looksAt ops).contains d || (if k < j then waits oj k else waits ok j))) &&
      (decide (j ≠ n) || (List.range n).all fun i => pre.contains i || (List.range (n + 1)).any fun k => decide (i < k) && match ops[k]? with | none => false | some ok => waits ok i) &&
      (decide (j ≤ n) || waits oj (j - 1))

abbrev Sig := Nat → Option Value
def Sig.upd (σ : Sig) (i : Nat) (v : Value) : Sig := fun k => if k = i then some v else σ k
def Sig.no : Sig := fun _ => none

/-- In every world that meets S the operation yields v, and S holds behind it. -/
def Calm1 (P : Program) (S : Sig → World → Prop) (o : Oper) (a : Act) (v : Value) : Prop :=
  ∀ σ w, S σ w → ∀ (K : Act → World → Prop) (Q : Exit → Act → World → Prop), (∀ w', S σ w' → K (a.put o.dst v) w') → o.wp P a w K Q
/-- In every world that meets S the operation yields something new, of which S then speaks. -/
def New1 (P : Program) (S : Sig → World → Prop) (i : Nat) (o : Oper) (a : Act) : Prop :=
  ∀ σ w, S σ w → ∀ (K : Act → World → Prop) (Q : Exit → Act → World → Prop), (∀ v w', S (σ.upd i v) w' → K (a.put o.dst v) w') → o.wp P a w K Q

def calm (P : Program) (ops : Array Oper) (S : Sig → World → Prop) (nw : List Nat) (R : Act → Prop) : Nat → List Oper → Act → Prop
  | _, [], a => R a
  | i, o :: rest, a => (i ∈ nw ∧ New1 P S i o a ∧ calm P ops S nw R (i + 1) rest a) ∨
      (i ∉ nw ∧ Region.wanted o (yielded ops a.tmps) = true ∧ ∃ v, Calm1 P S o a v ∧ calm P ops S nw R (i + 1) rest (a.put o.dst v)) ∨
      (i ∉ nw ∧ Region.wanted o (yielded ops a.tmps) = false ∧ calm P ops S nw R (i + 1) rest (a.put o.dst undef))

section
variable {P : Program} {ops : Array Oper} {S : Sig → World → Prop} {nw : List Nat} {R : Act → Prop} {a : Act} {o : Oper} {rest : List Oper} {i : Nat}
theorem calm_nil (h : R a) : calm P ops S nw R i [] a := h
theorem calm_step (v : Value) (hi : i ∉ nw) (hw : Region.wanted o (yielded ops a.tmps) = true)
    (h1 : ∀ σ w, S σ w → ∀ (K : Act → World → Prop) (Q : Exit → Act → World → Prop), (∀ w', S σ w' → K (a.put o.dst v) w') → o.wp P a w K Q) (h : calm P ops S nw R (i + 1) rest (a.put o.dst v)) : calm P ops S nw R i (o :: rest) a := .inr (.inl ⟨hi, hw, v, h1, h⟩)
theorem calm_skip (hi : i ∉ nw) (hw : Region.wanted o (yielded ops a.tmps) = false)
    (h : calm P ops S nw R (i + 1) rest (a.put o.dst undef)) : calm P ops S nw R i (o :: rest) a := .inr (.inr ⟨hi, hw, h⟩)
theorem calm_new (hi : i ∈ nw)
    (h1 : ∀ σ w, S σ w → ∀ (K : Act → World → Prop) (Q : Exit → Act → World → Prop), (∀ v w', S (σ.upd i v) w' → K (a.put o.dst v) w') → o.wp P a w K Q) (h : calm P ops S nw R (i + 1) rest a) : calm P ops S nw R i (o :: rest) a := .inl ⟨hi, h1, h⟩
end

/-- The frames of the text's own order. -/
def frames : List (Option Tmp × Value) → Act → Act
  | [], a => a
  | (d, v) :: r, a => frames r (a.put d v)

theorem frames_snoc (l : List (Option Tmp × Value)) (x : Option Tmp × Value) (a : Act) : frames (l ++ [x]) a = (frames l a).put x.1 x.2 := by
  induction l generalizing a with
  | nil => rfl
  | cons y l ih => exact ih _

section
variable {P : Program} {ops : Array Oper} {S : Sig → World → Prop} {nw : List Nat}

/-- Of each operation what it writes, but for the new ones. -/
def dets (nw : List Nat) (i : Nat) : List Oper → List (Option Tmp)
  | [] => []
  | o :: r => (if i ∈ nw then none else o.dst) :: dets nw (i + 1) r
theorem dets_length (nw : List Nat) : ∀ (l : List Oper) (i : Nat), (dets nw i l).length = l.length
  | [], _ => rfl
  | _ :: l, i => by simp [dets, dets_length nw l (i + 1)]
theorem dets_get (nw : List Nat) : ∀ (l : List Oper) (i k : Nat), (dets nw i l)[k]? = (l[k]?).map fun o => if i + k ∈ nw then none else o.dst
  | [], _, _ => by simp [dets]
  | o :: l, i, 0 => by simp [dets]
  | o :: l, i, k + 1 => by
    have := dets_get nw l (i + 1) k
    simp only [dets, List.getElem?_cons_succ, this]
    rw [show i + 1 + k = i + (k + 1) by omega]

theorem calm_frames {R : Act → Prop} : ∀ (l : List Oper) (i : Nat) (a : Act), calm P ops S nw R i l a →
    ∃ vs : List Value, vs.length = l.length ∧ R (frames ((dets nw i l).zip vs) a) ∧
      ∀ k o, l[k]? = some o → ∃ v, vs[k]? = some v ∧
        ((i + k ∈ nw ∧ New1 P S (i + k) o (frames (((dets nw i l).zip vs).take k) a)) ∨
         (i + k ∉ nw ∧ Region.wanted o (yielded ops (frames (((dets nw i l).zip vs).take k) a).tmps) = true ∧ Calm1 P S o (frames (((dets nw i l).zip vs).take k) a) v) ∨
         (i + k ∉ nw ∧ Region.wanted o (yielded ops (frames (((dets nw i l).zip vs).take k) a).tmps) = false ∧ v = undef)) := by
  intro l
  induction l with
  | nil => intro i a h; exact ⟨[], rfl, h, fun k o hk => by simp at hk⟩
  | cons o l ih =>
    intro i a h
    have step : ∀ (v : Value) (a' : Act), a' = a.put (if i ∈ nw then none else o.dst) v → calm P ops S nw R (i + 1) l a' →
        ((i ∈ nw ∧ New1 P S i o a) ∨ (i ∉ nw ∧ Region.wanted o (yielded ops a.tmps) = true ∧ Calm1 P S o a v) ∨ (i ∉ nw ∧ Region.wanted o (yielded ops a.tmps) = false ∧ v = undef)) → ∃ vs : List Value, vs.length = (o :: l).length ∧ R (frames ((dets nw i (o :: l)).zip vs) a) ∧
      ∀ k o', (o :: l)[k]? = some o' → ∃ v, vs[k]? = some v ∧
        ((i + k ∈ nw ∧ New1 P S (i + k) o' (frames (((dets nw i (o :: l)).zip vs).take k) a)) ∨
         (i + k ∉ nw ∧ Region.wanted o' (yielded ops (frames (((dets nw i (o :: l)).zip vs).take k) a).tmps) = true ∧ Calm1 P S o' (frames (((dets nw i (o :: l)).zip vs).take k) a) v) ∨
         (i + k ∉ nw ∧ Region.wanted o' (yielded ops (frames (((dets nw i (o :: l)).zip vs).take k) a).tmps) = false ∧ v = undef)) := by
      intro v a' ha hc h0
      obtain ⟨vs, hl, hR, hk⟩ := ih _ _ hc
      refine ⟨v :: vs, by simp [hl], by rw [ha] at hR; exact hR, fun k o' hk' => ?_⟩
      cases k with
      | zero => simp at hk'; subst hk'; exact ⟨v, rfl, h0⟩
      | succ k =>
        have := hk k o' (by simpa using hk')
        rw [ha, show i + 1 + k = i + (k + 1) by omega] at this
        exact this
    rcases h with ⟨hi, h1, h2⟩ | ⟨hi, hw, v, h1, h2⟩ | ⟨hi, hw, h2⟩
    · exact step undef a (by rw [if_pos hi]; rfl) h2 (.inl ⟨hi, h1⟩)
    · exact step v _ (by rw [if_neg hi]) h2 (.inr (.inl ⟨hi, hw, h1⟩))
    · exact step undef _ (by rw [if_neg hi]) h2 (.inr (.inr ⟨hi, hw, rfl⟩))

/-- The frame a' is a, but that what the k-th writes, for each k of E, stands there. -/
structure Agree (D : Nat → Option (Option Tmp × Value)) (E : Nat → Prop) (a a' : Act) : Prop where
  defers : a'.defers = a.defers
  size : a'.tmps.size = a.tmps.size
  wrote : ∀ k t v, E k → D k = some (some t, v) → t < a.tmps.size → a'.tmps[t]? = some v
  kept : ∀ t, (∀ k v, E k → D k ≠ some (some t, v)) → a'.tmps[t]? = a.tmps[t]?

theorem Agree.put {D : Nat → Option (Option Tmp × Value)} {E : Nat → Prop} {a a' : Act} (h : Agree D E a a') {j : Nat} {d : Option Tmp} {v : Value} (hj : D j = some (d, v))
    (hne : ∀ k t u, k ≠ j → D k = some (some t, u) → d ≠ some t) : Agree D (fun k => E k ∨ k = j) a (a'.put d v) := by
  cases d with
  | none =>
    refine ⟨h.defers, h.size, fun k t u hk hD ht => ?_, fun t ht => h.kept t fun k u hk => ht k u (.inl hk)⟩
    rcases hk with hk | rfl
    · exact h.wrote k t u hk hD ht
    · rw [hj] at hD; cases hD
  | some d =>
    refine ⟨h.defers, by simp [Act.put, h.size], fun k t u hk hD ht => ?_, fun t ht => ?_⟩
    · by_cases hkj : k = j
      · subst hkj
        rw [hj] at hD
        cases hD
        simp [Act.put, h.size, ht]
      · have hdt : d ≠ t := fun e => hne k t u hkj hD (by rw [e])
        have := h.wrote k t u (hk.resolve_right hkj) hD ht
        simpa [Act.put, Array.getElem?_setIfInBounds_ne hdt] using this
    · have hdt : d ≠ t := fun e => ht j v (.inr rfl) (by rw [hj, e])
      simpa [Act.put, Array.getElem?_setIfInBounds_ne hdt] using h.kept t fun k u hk => ht k u (.inl hk)

theorem agree_frames (D : List (Option Tmp × Value)) (hne : ∀ (j k : Nat) (t : Tmp) (u v : Value), k ≠ j → D[k]? = some (some t, u) → D[j]? ≠ some (some t, v)) (a : Act) :
    ∀ n, n ≤ D.length → Agree (fun k => D[k]?) (fun k => k < n) a (frames (D.take n) a) := by
  intro n
  induction n with
  | zero => intro _; exact ⟨rfl, rfl, fun k t v hk => by omega, fun t _ => rfl⟩
  | succ n ih =>
    intro hn
    have hlt : n < D.length := by omega
    obtain ⟨d, v, hDn⟩ : ∃ d v, D[n]? = some (d, v) := ⟨_, _, List.getElem?_eq_getElem hlt⟩
    have e : D.take (n + 1) = D.take n ++ [(d, v)] := by rw [List.take_add_one, hDn]; rfl
    rw [e, frames_snoc]
    have := (ih (by omega)).put (j := n) hDn (fun k t u hk hDk e => by subst e; exact hne n k t u v hk hDk hDn)
    refine ⟨this.defers, this.size, fun k t u hk => this.wrote k t u (by omega), fun t ht => this.kept t fun k u hk => ht k u (by omega)⟩

/-- The new ones' values in their places. -/
def putNew (l : List Oper) (nw : List Nat) (σ : Sig) (a : Act) : Act := nw.foldl (fun a k => a.put ((l[k]?).bind (·.dst)) ((σ k).getD undef)) a
theorem putNew_keeps (l : List Oper) (σ : Sig) : ∀ (nw : List Nat) (a : Act), (putNew l nw σ a).defers = a.defers ∧ (putNew l nw σ a).tmps.size = a.tmps.size := by
  intro nw
  induction nw with
  | nil => exact fun a => ⟨rfl, rfl⟩
  | cons k nw ih =>
    intro a
    have := ih (a.put ((l[k]?).bind (·.dst)) ((σ k).getD undef))
    have h2 : (a.put ((l[k]?).bind (·.dst)) ((σ k).getD undef)).defers = a.defers ∧ (a.put ((l[k]?).bind (·.dst)) ((σ k).getD undef)).tmps.size = a.tmps.size := by
      cases (l[k]?).bind (·.dst) <;> simp [Act.put]
    exact ⟨this.1.trans h2.1, this.2.trans h2.2⟩
theorem putNew_old (l : List Oper) (σ : Sig) (t : Tmp) : ∀ (nw : List Nat) (a : Act), (∀ k ∈ nw, (l[k]?).bind (·.dst) ≠ some t) → (putNew l nw σ a).tmps[t]? = a.tmps[t]? := by
  intro nw
  induction nw with
  | nil => exact fun a _ => rfl
  | cons k nw ih =>
    intro a h
    have h1 := ih (a.put ((l[k]?).bind (·.dst)) ((σ k).getD undef)) fun j hj => h j (by simp [hj])
    have h2 := h k (by simp)
    refine h1.trans ?_
    cases hd : (l[k]?).bind (·.dst) with
    | none => simp [Act.put]
    | some d =>
      have : d ≠ t := fun e => h2 (by rw [hd, e])
      simp [Act.put, Array.getElem?_setIfInBounds_ne this]
theorem putNew_new (l : List Oper) (σ : Sig) (t : Tmp) (k : Nat) : ∀ (nw : List Nat) (a : Act), k ∈ nw → (l[k]?).bind (·.dst) = some t → (∀ j ∈ nw, (l[j]?).bind (·.dst) = some t → j = k) → t < a.tmps.size →
    (putNew l nw σ a).tmps[t]? = some ((σ k).getD undef) := by
  intro nw
  induction nw with
  | nil => exact fun a h => by simp at h
  | cons j nw ih =>
    intro a hk hd hu ht
    have hsz : (a.put ((l[j]?).bind (·.dst)) ((σ j).getD undef)).tmps.size = a.tmps.size := by cases (l[j]?).bind (·.dst) <;> simp [Act.put]
    by_cases hkn : k ∈ nw
    · exact ih (a.put ((l[j]?).bind (·.dst)) ((σ j).getD undef)) hkn hd (fun i hi => hu i (by simp [hi])) (by rw [hsz]; exact ht)
    · have hkj : k = j := by simpa [hkn] using hk
      subst hkj
      have h1 := putNew_old l σ t nw (a.put ((l[k]?).bind (·.dst)) ((σ k).getD undef)) fun i hi he => hkn (hu i (by simp [hi]) he ▸ hi)
      refine h1.trans ?_
      rw [hd]
      simp [Act.put, ht]

theorem same_op {o : Oper} {a a' : Act} (hs : ∀ cs b, o.op ≠ .select cs b) (h : ∀ t ∈ o.looksAt ops, a'.tmps[t]? = a.tmps[t]?) :
    execOp a'.eval o = execOp a.eval o ∧ Region.wanted o (yielded ops a'.tmps) = Region.wanted o (yielded ops a.tmps) := by
  refine ⟨execOp_congr o hs fun x hx => ?_, ?_⟩
  · cases x with
    | tmp t =>
      have := h t (List.mem_append_left _ (List.mem_filterMap.2 ⟨.tmp t, by simpa using hx, rfl⟩))
      simp [Act.eval, this]
    | _ => rfl
  · unfold Region.wanted
    cases hg : o.guard with
    | none => rfl
    | some gw =>
      obtain ⟨g, want⟩ := gw
      have hy : yielded ops a'.tmps g = yielded ops a.tmps g := by
        unfold yielded
        cases ht : (ops[g]?).bind (·.dst) with
        | none => rfl
        | some t =>
          have := h t (by simp [Oper.looksAt, hg, ht])
          simp [this]
      simp only [hy]

theorem waits_spec {o : Oper} {k : Nat} (h : waits o k = true) : ∃ e ∈ o.after, Region.binds .any e = true ∧ e.on = k := by
  unfold waits at h
  obtain ⟨e, he, hb⟩ := Array.any_eq_true'.1 h
  simp only [Bool.and_eq_true, beq_iff_eq] at hb
  exact ⟨e, he, hb.1, hb.2⟩

theorem mem_ready {md : Region.Mode} {listed : Array Bool} {i : Nat} : i ∈ Region.ready md ops listed ↔
    i < ops.size ∧ listed.getD i true = false ∧ ∃ o, ops[i]? = some o ∧ ∀ e ∈ o.after, Region.binds md e = true → listed.getD e.on false = true := by
  unfold Region.ready
  simp only [List.mem_filter, List.mem_range, Bool.and_eq_true, Bool.not_eq_true']
  constructor
  · rintro ⟨h1, h2, h3⟩
    refine ⟨h1, h2, ?_⟩
    cases ho : ops[i]? with
    | none => simp [ho] at h3
    | some o =>
      simp only [ho, Option.map_some, Option.getD_some] at h3
      refine ⟨o, rfl, fun e he hb => ?_⟩
      have := Array.all_eq_true'.1 h3 e he
      simpa [hb] using this
  · rintro ⟨h1, h2, o, ho, h3⟩
    refine ⟨h1, h2, ?_⟩
    simp only [ho, Option.map_some, Option.getD_some]
    refine Array.all_eq_true'.2 fun e he => ?_
    cases hb : Region.binds md e with
    | false => simp
    | true => simpa using h3 e he hb

/-- How many are left. -/
def left (listed : Array Bool) : Nat := ((List.range listed.size).filter fun i => !listed.getD i true).length
theorem filter_less {p p' : Nat → Bool} {j : Nat} : ∀ (l : List Nat), l.Nodup → j ∈ l → p j = true → (∀ x, p' x = (p x && x != j)) → (l.filter p).length = (l.filter p').length + 1 := by
  intro l
  induction l with
  | nil => intro _ h; simp at h
  | cons x l ih =>
    intro hn hj hp hp'
    rw [List.nodup_cons] at hn
    by_cases hx : x = j
    · subst hx
      have e : l.filter p = l.filter p' := List.filter_congr fun y hy => by
        rw [hp' y]
        have : y ≠ x := fun e => hn.1 (e ▸ hy)
        simp [this]
      simp [hp, hp' x, e]
    · have := ih hn.2 (by simpa [Ne.symm hx] using hj) hp hp'
      simp only [List.filter_cons, hp' x]
      by_cases hpx : p x = true
      · simp [hpx, hx, this]
      · simp [hpx, this]
theorem left_set {listed : Array Bool} {j : Nat} (hj : j < listed.size) (hl : listed.getD j true = false) : left listed = left (listed.setIfInBounds j true) + 1 := by
  unfold left
  simp only [Array.size_setIfInBounds]
  refine filter_less (j := j) _ List.nodup_range (by simpa using hj) (by simp [hl]) fun x => ?_
  by_cases hx : x = j
  · subst hx; simp [hj]
  · have : j ≠ x := Ne.symm hx
    simp [Array.getElem?_setIfInBounds_ne this, hx]
theorem left_pos {listed : Array Bool} {j : Nat} (hj : j < listed.size) (hl : listed.getD j true = false) : 0 < left listed := by
  rw [left_set hj hl]; omega

structure Good (ops : Array Oper) (n : Nat) (nw : List Nat) (pre : List Nat) : Prop where
  preOrd : preOk ops n nw [] pre = true
  preAny : ∀ p ∈ pre, p < n ∧ p ∉ nw ∧ ∃ o, ops[p]? = some o ∧ o.guard = none ∧ ∀ e ∈ o.after, Region.binds .any e = true → e.on ∈ pre
  newLt : ∀ k ∈ nw, k < n
  newPlain : ∀ k ∈ nw, ∀ o, ops[k]? = some o → o.guard = none
  newApart : ∀ k ∈ nw, ∀ (ok : Oper) (d : Tmp), ops[k]? = some ok → ok.dst = some d → ∀ (j : Nat) (oj : Oper), j < n → ops[j]? = some oj → d ∉ oj.looksAt ops
  le : n ≤ ops.size
  noSel : ∀ (j : Nat) (o : Oper), ops[j]? = some o → ∀ cs b, o.op ≠ .select cs b
  low : ∀ (j : Nat) (o : Oper), ops[j]? = some o → ∀ e ∈ o.after, Region.binds .any e = true → e.on < j
  own : ∀ (k : Nat) (o : Oper) (d : Tmp), k < n → ops[k]? = some o → o.dst = some d → d ∉ o.looksAt ops
  pair : ∀ (k j : Nat) (ok oj : Oper) (d : Tmp), k < n → j < n → k ≠ j → ops[k]? = some ok → ops[j]? = some oj → ok.dst = some d →
    oj.dst ≠ some d ∧ (d ∉ oj.looksAt ops ∨ (k < j ∧ waits oj k = true) ∨ (j < k ∧ waits ok j = true))
  sink : n < ops.size → ∀ i, i < n → i ∉ pre → ∃ k, i < k ∧ k ≤ n ∧ ∃ o, ops[k]? = some o ∧ waits o i = true
  chain : ∀ (j : Nat) (o : Oper), n < j → ops[j]? = some o → waits o (j - 1) = true

theorem preOk_cons {n p : Nat} {done r : List Nat} (h : preOk ops n nw done (p :: r) = true) :
    p < n ∧ p ∉ nw ∧ p ∉ done ∧ (∃ o, ops[p]? = some o ∧ o.guard = none ∧ ∀ e ∈ o.after, Region.binds .any e = true → e.on ∈ done) ∧ preOk ops n nw (p :: done) r = true := by
  unfold preOk at h
  simp only [Bool.and_eq_true, decide_eq_true_eq, Bool.not_eq_true'] at h
  obtain ⟨⟨⟨⟨h1, h2⟩, h3⟩, h4⟩, h5⟩ := h
  refine ⟨h1, by simpa using h2, by simpa using h3, ?_, h5⟩
  cases ho : ops[p]? with
  | none => simp [ho] at h4
  | some o =>
    simp only [ho, Bool.and_eq_true] at h4
    refine ⟨o, rfl, by simpa using h4.1, fun e he hb => ?_⟩
    have := Array.all_eq_true'.1 h4.2 e he
    simpa [hb] using this
theorem preOk_mem {n : Nat} : ∀ (r done : List Nat), preOk ops n nw done r = true → ∀ p ∈ r, p < n ∧ p ∉ nw ∧ ∃ o, ops[p]? = some o ∧ o.guard = none ∧ ∀ e ∈ o.after, Region.binds .any e = true → e.on ∈ r ∨ e.on ∈ done := by
  intro r
  induction r with
  | nil => intro _ _ p hp; cases hp
  | cons q r ih =>
    intro done h p hp
    obtain ⟨h1, h2, _, ⟨o, ho, hg, he⟩, h5⟩ := preOk_cons h
    rcases List.mem_cons.1 hp with rfl | hp
    · exact ⟨h1, h2, o, ho, hg, fun e hm hb => .inr (he e hm hb)⟩
    · obtain ⟨k1, k2, o', ho', hg', he'⟩ := ih _ h5 p hp
      refine ⟨k1, k2, o', ho', hg', fun e hm hb => ?_⟩
      rcases he' e hm hb with h | h
      · exact .inl (List.mem_cons_of_mem _ h)
      · rcases List.mem_cons.1 h with rfl | h
        · exact .inl (List.mem_cons_self ..)
        · exact .inr h
theorem good_of {n : Nat} {pre : List Nat} (h : calmOk ops n nw pre = true) : Good ops n nw pre := by
  unfold calmOk at h
  rw [Bool.and_eq_true, Bool.and_eq_true, decide_eq_true_eq, List.all_eq_true] at h
  obtain ⟨⟨hn, hnew⟩, h⟩ := h
  rw [Bool.and_eq_true] at hnew
  obtain ⟨hnew, hpre⟩ := hnew
  have hpa : ∀ p ∈ pre, p < n ∧ p ∉ nw ∧ ∃ o, ops[p]? = some o ∧ o.guard = none ∧ ∀ e ∈ o.after, Region.binds .any e = true → e.on ∈ pre := by
    intro p hp
    have := preOk_mem pre [] hpre p hp
    simpa using this
  have hnw : ∀ k ∈ nw, k < n ∧ ∀ ok, ops[k]? = some ok → ok.guard = none ∧ ∀ d, ok.dst = some d → ∀ (j : Nat) (oj : Oper), j < n → ops[j]? = some oj → d ∉ oj.looksAt ops := by
    intro k hk
    unfold newOk at hnew
    rw [List.all_eq_true] at hnew
    have hh := hnew k hk
    rw [Bool.and_eq_true, decide_eq_true_eq] at hh
    refine ⟨hh.1, fun ok hok => ?_⟩
    have h2 := hh.2
    simp only [hok, Bool.and_eq_true] at h2
    refine ⟨by simpa using h2.1, fun d hd j oj hj hoj => ?_⟩
    have h3 := h2.2
    simp only [hd, List.all_eq_true, List.mem_range] at h3
    have h4 := h3 j hj
    simp only [hoj] at h4
    simpa using h4
  have key : ∀ (j : Nat) (oj : Oper), ops[j]? = some oj → (isSelect oj.op = false ∧ (∀ e ∈ oj.after, Region.binds .any e = true → e.on < j)) ∧
      (j < n → ∀ (k : Nat) (ok : Oper) (d : Tmp), k < n → ops[k]? = some ok → ok.dst = some d →
        (k = j → d ∉ oj.looksAt ops) ∧ (k ≠ j → oj.dst ≠ some d ∧ (d ∉ oj.looksAt ops ∨ (k < j ∧ waits oj k = true) ∨ (j < k ∧ waits ok j = true)))) ∧
      (j = n → ∀ i, i < n → i ∉ pre → ∃ k, i < k ∧ k ≤ n ∧ ∃ o, ops[k]? = some o ∧ waits o i = true) ∧ (n < j → waits oj (j - 1) = true) := by
    intro j oj hj
    have hlt : j < ops.size := (Array.getElem?_eq_some_iff.1 hj).1
    have hh := h j (List.mem_range.2 hlt)
    simp only [hj, Bool.and_eq_true, Bool.or_eq_true, Bool.not_eq_true', decide_eq_true_eq, List.all_eq_true, List.any_eq_true, List.mem_range] at hh
    obtain ⟨⟨⟨⟨h1, h2⟩, h3⟩, h4⟩, h5⟩ := hh
    refine ⟨⟨h1, fun e he hb => ?_⟩, fun hjn k ok d hk hok hd => ?_, fun hjn i hi hpi => ?_, fun hnj => ?_⟩
    · have := Array.all_eq_true'.1 h2 e he
      simpa [hb] using this
    · have h6 := (h3.resolve_left (by omega)) k hk
      simp only [hok, hd] at h6
      refine ⟨fun hkj => ?_, fun hkj => ?_⟩
      · rw [if_pos hkj] at h6
        simpa using h6
      · rw [if_neg hkj] at h6
        simp only [Bool.and_eq_true, bne_iff_ne, ne_eq, Bool.or_eq_true, Bool.not_eq_true'] at h6
        refine ⟨h6.1, ?_⟩
        rcases h6.2 with h7 | h7
        · exact .inl (by simpa using h7)
        · by_cases hlt : k < j
          · rw [if_pos hlt] at h7; exact .inr (.inl ⟨hlt, h7⟩)
          · rw [if_neg hlt] at h7; exact .inr (.inr ⟨by omega, h7⟩)
    · rcases h4 with h4 | h4
      · exact absurd hjn h4
      · obtain ⟨k, hk, hik, hw⟩ := (h4 i hi).resolve_left (by simpa using hpi)
        refine ⟨k, hik, by omega, ?_⟩
        cases hok : ops[k]? with
        | none => simp [hok] at hw
        | some ok => exact ⟨ok, rfl, by simpa [hok] using hw⟩
    · rcases h5 with h5 | h5
      · omega
      · exact h5
  refine ⟨hpre, hpa, fun k hk => (hnw k hk).1, fun k hk o ho => ((hnw k hk).2 o ho).1, fun k hk ok d hok hd j oj hj hoj => ((hnw k hk).2 ok hok).2 d hd j oj hj hoj, hn, fun j o ho cs b he => ?_, fun j o ho => (key j o ho).1.2, fun k o d hk ho hd => ((key k o ho).2.1 hk k o d hk ho hd).1 rfl,
    fun k j ok oj d hk hj hkj hok hoj hd => ((key j oj hoj).2.1 hj k ok d hk hok hd).2 hkj, fun hlt i hi hpi => ?_, fun j o hj ho => (key j o ho).2.2.2 hj⟩
  · have := (key j o ho).1.1
    rw [he] at this
    cases this
  · exact (key n _ (Array.getElem?_eq_getElem hlt)).2.2.1 rfl i hi hpi

theorem getD_tf {listed : Array Bool} {k : Nat} (hk : k < listed.size) : listed.getD k true = listed.getD k false := by simp [hk]

theorem left_zero {listed : Array Bool} (h : ∀ k, k < listed.size → listed.getD k true = true) : left listed = 0 := by
  unfold left
  rw [List.length_eq_zero_iff, List.filter_eq_nil_iff]
  intro k hk
  have := h k (by simpa using hk)
  simp only [this, Bool.not_true, Bool.false_eq_true, not_false_eq_true]

theorem tail_any {l : List Oper} {n : Nat} {pre : List Nat} {Q : Exit → Act → World → Prop} (g : Good l.toArray n nw pre) : ∀ (fuel m : Nat) (listed : Array Bool) (a : Act) (w : World), listed.size = l.length → n ≤ m →
    (∀ k, k < m → k < l.length → listed.getD k true = true) → (∀ k, m ≤ k → k < l.length → listed.getD k true = false) → left listed = fuel →
    wpList P l.toArray Q (l.drop m) a w → wpAny P .any l.toArray Q fuel listed a w := by
  intro fuel
  induction fuel with
  | zero =>
    intro m listed a w hs hnm h1 h2 hl hw
    have hm : l.length ≤ m := by
      rcases Nat.lt_or_ge m l.length with h | h
      · have := left_pos (j := m) (by omega) (h2 m (Nat.le_refl _) h); omega
      · exact h
    rw [List.drop_eq_nil_of_le hm] at hw
    refine ⟨List.eq_nil_iff_forall_not_mem.2 fun i hi => ?_, hw⟩
    obtain ⟨hi1, hi2, _⟩ := mem_ready.1 hi
    have hi1 : i < l.length := by simpa using hi1
    rw [h1 i (by omega) hi1] at hi2
    cases hi2
  | succ fuel ih =>
    intro m listed a w hs hnm h1 h2 hl hw
    have hm : m < l.length := by
      rcases Nat.lt_or_ge m l.length with h | h
      · exact h
      · have := left_zero (listed := listed) (fun k hk => h1 k (by omega) (by omega)); omega
    obtain ⟨o, ho⟩ : ∃ o, l[m]? = some o := ⟨_, List.getElem?_eq_getElem hm⟩
    have hoa : l.toArray[m]? = some o := by simpa using ho
    have hready : m ∈ Region.ready .any l.toArray listed := mem_ready.2 ⟨by simpa using hm, h2 m (Nat.le_refl _) hm, o, hoa, fun e he hb => by
      have := g.low m o hoa e he hb
      rw [← getD_tf (by omega)]
      exact h1 _ this (by omega)⟩
    refine ⟨fun h => (by rw [h] at hready; cases hready), fun i hi => ?_⟩
    obtain ⟨hi1, hi2, oi, hoi, hi3⟩ := mem_ready.1 hi
    have hi1 : i < l.length := by simpa using hi1
    have him : i = m := by
      rcases Nat.lt_trichotomy i m with h | h | h
      · rw [h1 i h hi1] at hi2; cases hi2
      · exact h
      · obtain ⟨e, he, hb, heq⟩ := waits_spec (g.chain i oi (by omega) hoi)
        have := hi3 e he hb
        rw [heq, ← getD_tf (by omega), h2 (i - 1) (by omega) (by omega)] at this
        cases this
    subst him
    have hd : l.drop i = o :: l.drop (i + 1) := by
      rw [List.drop_eq_getElem_cons hm]
      congr 1
      have := List.getElem?_eq_getElem hm
      rw [ho] at this
      exact (Option.some.inj this).symm
    rw [hd] at hw
    have hop : wpOp P l.toArray Q i (wpList P l.toArray Q (l.drop (i + 1))) a w := by
      unfold wpOp
      simp only [hoa]
      exact hw
    refine wpOp_mono (fun a' w' h' => ih (i + 1) _ a' w' (by simpa using hs) (by omega) ?_ ?_ ?_ h') hop
    · intro k hk hkl
      by_cases hki : k = i
      · subst hki; simp [hs, hm]
      · have : i ≠ k := Ne.symm hki
        simpa [Array.getElem?_setIfInBounds_ne this] using h1 k (by omega) hkl
    · intro k hk hkl
      have : i ≠ k := by omega
      simpa [Array.getElem?_setIfInBounds_ne this] using h2 k (by omega) hkl
    · have := left_set (j := i) (by omega) hi2
      omega

theorem act_ext {a b : Act} (h : a.tmps = b.tmps) (h2 : a.defers = b.defers) : a = b := by cases a; cases b; simp_all
theorem put_eq {a b : Act} (h : a.tmps.size = b.tmps.size) {d : Option Tmp} {u v : Value} (e : a.put d u = a.put d v) : b.put d u = b.put d v := by
  cases d with
  | none => rfl
  | some d =>
    by_cases hd : d < a.tmps.size
    · have := congrArg (fun x => x.tmps[d]?) e
      simp only [Act.put, Array.getElem?_setIfInBounds_self, hd, if_true, Option.some.injEq] at this
      rw [this]
    · have hb : ∀ x, b.tmps.setIfInBounds d x = b.tmps := fun x => Array.setIfInBounds_eq_of_size_le (Nat.le_of_not_lt (h ▸ hd))
      simp [Act.put, hb]

theorem Calm1.at {o : Oper} {a a' : Act} {v : Value} (h : Calm1 P S o a v) (he : execOp a'.eval o = execOp a.eval o) (hs : a.tmps.size = a'.tmps.size) {σ : Sig} {w : World} (hw : S σ w)
    (K : Act → World → Prop) (Q : Exit → Act → World → Prop) (hK : ∀ w', S σ w' → K (a'.put o.dst v) w') : o.wp P a' w K Q := by
  have h1 := h σ w hw (fun a1 w1 => a1 = a.put o.dst v ∧ S σ w1) (fun _ _ _ => False) (fun w' hw' => ⟨rfl, hw'⟩)
  unfold Oper.wp at *
  rw [he]
  generalize (execOp a.eval o).run P w = r at *
  cases r with
  | ok n w' =>
    cases n <;> simp only [Oper.upon] at h1 ⊢
    case value u => rw [put_eq hs h1.1]; exact hK _ h1.2
    case skip => rw [put_eq hs h1.1]; exact hK _ h1.2
    case defer d =>
      have := congrArg (fun x => x.defers.length) h1.1
      cases hd : o.dst <;> simp [Act.put, hd] at this
    case enter f args =>
      refine Calls.mono h1 fun e w'' he => ?_
      cases e with
      | returned u =>
        show K (a'.put o.dst u) w''
        rw [put_eq hs he.1]; exact hK _ he.2
      | panicked c => exact he.elim
      | outgrown => obtain ⟨_, _, hh⟩ := he; exact hh.elim
    case row row args => exact Rows.mono h1 fun u w'' he => by rw [put_eq hs he.1]; exact hK _ he.2
  | halt x w' => cases x <;> simp only [Oper.upon] at h1 ⊢
theorem New1.at {i : Nat} {o : Oper} {a a' : Act} (h : New1 P S i o a) (he : execOp a'.eval o = execOp a.eval o) (hs : a.tmps.size = a'.tmps.size) {σ : Sig} {w : World} (hw : S σ w)
    (K : Act → World → Prop) (Q : Exit → Act → World → Prop) (hK : ∀ v w', S (σ.upd i v) w' → K (a'.put o.dst v) w') : o.wp P a' w K Q := by
  have h1 := h σ w hw (fun a1 w1 => ∃ v, a1 = a.put o.dst v ∧ S (σ.upd i v) w1) (fun _ _ _ => False) (fun v w' hw' => ⟨v, rfl, hw'⟩)
  unfold Oper.wp at *
  rw [he]
  generalize (execOp a.eval o).run P w = r at *
  cases r with
  | ok n w' =>
    cases n <;> simp only [Oper.upon] at h1 ⊢
    case value u => obtain ⟨v, e1, e2⟩ := h1; rw [put_eq hs e1]; exact hK _ _ e2
    case skip => obtain ⟨v, e1, e2⟩ := h1; rw [put_eq hs e1]; exact hK _ _ e2
    case defer d =>
      obtain ⟨v, e1, e2⟩ := h1
      have := congrArg (fun x => x.defers.length) e1
      cases hd : o.dst <;> simp [Act.put, hd] at this
    case enter f args =>
      refine Calls.mono h1 fun e w'' he => ?_
      cases e with
      | returned u =>
        show K (a'.put o.dst u) w''
        obtain ⟨v, e1, e2⟩ := he
        rw [put_eq hs e1]; exact hK _ _ e2
      | panicked c => exact he.elim
      | outgrown => obtain ⟨_, _, hh⟩ := he; exact hh.elim
    case row row args => exact Rows.mono h1 fun u w'' he => by obtain ⟨v, e1, e2⟩ := he; rw [put_eq hs e1]; exact hK _ _ e2
  | halt x w' => cases x <;> simp only [Oper.upon] at h1 ⊢

/-- The ones that are taken ahead, in their order, each yielding its value in whatever world. -/
def PreRun (P : Program) (l : List Oper) : List Nat → Act → Act → Prop
  | [], a, a0 => a0 = a
  | p :: r, a, a0 => ∃ o v, l[p]? = some o ∧ (∀ w, (execOp a.eval o).run P w = .ok (.value v) w) ∧ PreRun P l r (a.put o.dst v) a0

theorem wpAny_new {Q : Exit → Act → World → Prop} {a a0 : Act} {w : World} {l : List Oper} (S : Sig → World → Prop) (n : Nat) (nw : List Nat) (pre : List Nat) (hok : calmOk l.toArray n nw pre = true) (hS : S Sig.no w)
    (h : calm P l.toArray S nw (fun a' => ∀ σ w', (∀ k ∈ nw, (σ k).isSome = true) → S σ w' → wpList P l.toArray Q (l.drop n) (putNew l nw σ a') w') 0 (l.take n) a)
    (listed0 : Array Bool) (hs0 : listed0.size = l.length) (hl0 : ∀ k, k < l.length → listed0.getD k true = true → k ∈ pre) (hp0 : ∀ p ∈ pre, listed0.getD p true = true)
    (ha0 : PreRun P l pre a a0) :
    wpAny P .any l.toArray Q (left listed0) listed0 a0 w := by
  have g := good_of hok
  have hnl : n ≤ l.length := by simpa using g.le
  obtain ⟨vs, hvl, hR, hk⟩ := calm_frames _ _ _ h
  have hvn : vs.length = n := by simp [hvl, hnl]
  obtain ⟨D, hD⟩ : ∃ D, (dets nw 0 (l.take n)).zip vs = D := ⟨_, rfl⟩
  rw [hD] at hR hk
  simp only [Nat.zero_add] at hk
  have hDl : D.length = n := by rw [← hD]; simp [dets_length, hvn, hnl]
  have hget : ∀ k, k < n → (dets nw 0 (l.take n))[k]? = (l[k]?).map fun o => if k ∈ nw then none else o.dst := by
    intro k hk
    rw [dets_get]
    simp [hk]
  -- the k-th of D
  have hDk : ∀ (k : Nat) (o : Oper) (v : Value), k < n → k ∉ nw → l[k]? = some o → vs[k]? = some v → D[k]? = some (o.dst, v) := by
    intro k o v hkn hnk ho hv
    rw [← hD, List.getElem?_zip_eq_some]
    refine ⟨?_, hv⟩
    rw [hget k hkn, ho]
    simp [hnk]
  have hDd : ∀ (k : Nat) (t : Tmp) (v : Value), D[k]? = some (some t, v) → k < n ∧ k ∉ nw ∧ ∃ o, l[k]? = some o ∧ o.dst = some t := by
    intro k t v hk
    have hkn : k < n := by rw [← hDl]; exact (List.getElem?_eq_some_iff.1 hk).1
    rw [← hD, List.getElem?_zip_eq_some] at hk
    obtain ⟨h1, _⟩ := hk
    rw [hget k hkn, Option.map_eq_some_iff] at h1
    obtain ⟨o, ho, hd⟩ := h1
    by_cases hnk : k ∈ nw
    · simp [hnk] at hd
    · rw [if_neg hnk] at hd
      exact ⟨hkn, hnk, o, ho, hd⟩
  have huniq : ∀ (j k : Nat) (t : Tmp) (u v : Value), k ≠ j → D[k]? = some (some t, u) → D[j]? ≠ some (some t, v) := by
    intro j k t u v hkj h1 h2
    obtain ⟨hkn, _, ok, hok', hdk⟩ := hDd k _ u h1
    obtain ⟨hjn, _, oj, hoj, hdj⟩ := hDd j _ v h2
    exact (g.pair k j ok oj t hkn hjn hkj (by simpa using hok') (by simpa using hoj) hdk).1 hdj
  -- .. with the new ones' values
  obtain ⟨F, hF⟩ : ∃ F : Sig → Nat → Option (Option Tmp × Value), ∀ σ k, F σ k = if k ∈ nw then (l[k]?).map fun o => (o.dst, (σ k).getD undef) else D[k]? := ⟨_, fun _ _ => rfl⟩
  have hFd : ∀ (σ : Sig) (k : Nat) (t : Tmp) (v : Value), F σ k = some (some t, v) → k < n ∧ ∃ o, l[k]? = some o ∧ o.dst = some t := by
    intro σ k t v hk
    rw [hF] at hk
    by_cases hnk : k ∈ nw
    · rw [if_pos hnk, Option.map_eq_some_iff] at hk
      obtain ⟨o, ho, hd⟩ := hk
      exact ⟨g.newLt k hnk, o, ho, by simp at hd; exact hd.1⟩
    · rw [if_neg hnk] at hk
      obtain ⟨h1, _, h3⟩ := hDd k t v hk
      exact ⟨h1, h3⟩
  have hFu : ∀ (σ : Sig) (j k : Nat) (t : Tmp) (u v : Value), k ≠ j → F σ k = some (some t, u) → F σ j ≠ some (some t, v) := by
    intro σ j k t u v hkj h1 h2
    obtain ⟨hkn, ok, hok', hdk⟩ := hFd σ k _ u h1
    obtain ⟨hjn, oj, hoj, hdj⟩ := hFd σ j _ v h2
    exact (g.pair k j ok oj t hkn hjn hkj (by simpa using hok') (by simpa using hoj) hdk).1 hdj
  have hend : ∀ (E : Nat → Prop) (a' : Act) (σ : Sig), (∀ k, k < n → E k) → Agree (F σ) E a a' → a' = putNew l nw σ (frames D a) := by
    intro E a' σ hall hA
    have hB := agree_frames D huniq a n (by omega)
    rw [List.take_of_length_le (by omega)] at hB
    obtain ⟨k1, k2⟩ := putNew_keeps l σ nw (frames D a)
    refine act_ext ?_ (hA.defers.trans (hB.defers.symm.trans k1.symm))
    apply Array.ext_getElem?
    intro t
    by_cases hts : t < a.tmps.size
    · by_cases hw : ∃ (k : Nat) (v : Value), F σ k = some (some t, v)
      · obtain ⟨k, v, hkv⟩ := hw
        obtain ⟨hkn, o, ho, hd⟩ := hFd σ k _ v hkv
        rw [hA.wrote k t v (hall k hkn) hkv hts]
        have hkv' := hkv
        rw [hF] at hkv
        by_cases hnk : k ∈ nw
        · rw [if_pos hnk, ho] at hkv
          simp at hkv
          rw [putNew_new l σ t k nw _ hnk (by simp [ho, hd]) (fun j hj hdj => ?_) (by rw [hB.size]; exact hts), hkv.2]
          by_cases hjk : j = k
          · exact hjk
          · exfalso
            cases hlj : l[j]? with
            | none => rw [hlj] at hdj; cases hdj
            | some oj =>
              rw [hlj] at hdj
              refine hFu σ j k t v ((σ j).getD undef) (Ne.symm hjk) hkv' ?_
              rw [hF, if_pos hj, hlj]
              simp at hdj
              simp [hdj]
        · rw [if_neg hnk] at hkv
          rw [putNew_old l σ t nw _ fun j hj hdj => ?_, hB.wrote k t v hkn hkv hts]
          cases hlj : l[j]? with
          | none => rw [hlj] at hdj; cases hdj
          | some oj =>
            rw [hlj] at hdj
            refine hFu σ j k t v ((σ j).getD undef) (fun e => hnk (e ▸ hj)) hkv' ?_
            rw [hF, if_pos hj, hlj]
            simp at hdj
            simp [hdj]
      · rw [hA.kept t fun k v _ hkv => hw ⟨k, v, hkv⟩, putNew_old l σ t nw _ fun j hj hdj => ?_, hB.kept t fun k v _ hkv => ?_]
        · obtain ⟨_, hnk, _⟩ := hDd k t v hkv
          exact hw ⟨k, v, by rw [hF, if_neg hnk]; exact hkv⟩
        · cases hlj : l[j]? with
          | none => rw [hlj] at hdj; cases hdj
          | some oj =>
            rw [hlj] at hdj
            refine hw ⟨j, (σ j).getD undef, ?_⟩
            rw [hF, if_pos hj, hlj]
            simp at hdj
            simp [hdj]
    · rw [Array.getElem?_eq_none (show a'.tmps.size ≤ t from by rw [hA.size]; exact Nat.le_of_not_lt hts), Array.getElem?_eq_none (show (putNew l nw σ (frames D a)).tmps.size ≤ t from by rw [k2, hB.size]; exact Nat.le_of_not_lt hts)]
  have main : ∀ (fuel : Nat) (listed : Array Bool) (a' : Act) (w' : World) (σ : Sig), listed.size = l.length → left listed = fuel → (∀ j, n ≤ j → j < l.length → listed.getD j true = false) →
      (∀ k o, k < l.length → listed.getD k true = true → l[k]? = some o → ∀ e ∈ o.after, Region.binds .any e = true → listed.getD e.on false = true) →
      (∀ k ∈ nw, listed.getD k true = true → (σ k).isSome = true) → (∀ p ∈ pre, listed.getD p true = true) →
      Agree (F σ) (fun k => k < n ∧ listed.getD k true = true) a a' → S σ w' → wpAny P .any l.toArray Q fuel listed a' w' := by
    intro fuel
    induction fuel with
    | zero =>
      intro listed a' w' σ hs hl ht hc hσ hP hA hSw
      have hall : ∀ k, k < l.length → listed.getD k true = true := fun k hk => by
        cases hkk : listed.getD k true with
        | true => rfl
        | false => have := left_pos (j := k) (by omega) hkk; omega
      have hn : n = l.length := by
        rcases Nat.lt_or_ge n l.length with h | h
        · have := hall n h; rw [ht n (Nat.le_refl _) h] at this; cases this
        · omega
      refine tail_any g 0 n listed a' w' hs (Nat.le_refl _) (fun k _ hk => hall k hk) ht hl ?_
      rw [hend _ a' σ (fun k hk => ⟨hk, hall k (by omega)⟩) hA]
      exact hR σ w' (fun k hk => hσ k hk (hall k (by have := g.newLt k hk; omega))) hSw
    | succ fuel ih =>
      intro listed a' w' σ hs hl ht hc hσ hP hA hSw
      by_cases hpre : ∀ k, k < n → listed.getD k true = true
      · refine tail_any g (fuel + 1) n listed a' w' hs (Nat.le_refl _) (fun k hk _ => hpre k hk) ht hl ?_
        rw [hend _ a' σ (fun k hk => ⟨hk, hpre k hk⟩) hA]
        exact hR σ w' (fun k hk => hσ k hk (hpre k (g.newLt k hk))) hSw
      · -- the least that is not listed is ready
        have hex : ∃ k, k < n ∧ listed.getD k true = false := by
          rcases Classical.em (∃ k, k < n ∧ listed.getD k true = false) with h | h
          · exact h
          · exact absurd (fun k hk => by
              cases hkk : listed.getD k true with
              | true => rfl
              | false => exact absurd ⟨k, hk, hkk⟩ h) hpre
        obtain ⟨m, hm, hmin⟩ : ∃ m, (m < n ∧ listed.getD m true = false) ∧ ∀ k, k < m → listed.getD k true = true := by
          obtain ⟨k, hk⟩ := hex
          induction k using Nat.strongRecOn with
          | _ k ihk =>
            rcases Classical.em (∃ j, j < k ∧ listed.getD j true = false) with ⟨j, hj, hjl⟩ | h
            · exact ihk j hj ⟨by omega, hjl⟩
            · refine ⟨k, hk, fun j hj => ?_⟩
              cases hjj : listed.getD j true with
              | true => rfl
              | false => exact absurd ⟨j, hj, hjj⟩ h
        obtain ⟨om, hom⟩ : ∃ o, l[m]? = some o := ⟨_, List.getElem?_eq_getElem (by omega)⟩
        have hready : m ∈ Region.ready .any l.toArray listed := mem_ready.2 ⟨by simp; omega, hm.2, om, by simpa using hom, fun e he hb => by
          have := g.low m om (by simpa using hom) e he hb
          rw [← getD_tf (by omega)]
          exact hmin _ this⟩
        refine ⟨fun h => (by rw [h] at hready; cases hready), fun i hi => ?_⟩
        obtain ⟨hi1, hi2, o, ho, hi3⟩ := mem_ready.1 hi
        have hi1 : i < l.length := by simpa using hi1
        have hol : l[i]? = some o := by simpa using ho
        have hin : i < n := by
          rcases Nat.lt_trichotomy i n with h | h | h
          · exact h
          · -- all that it waits for, and so all, are listed
            subst h
            have hall : ∀ d k, i - k = d → k < i → listed.getD k true = true := by
              intro d
              induction d using Nat.strongRecOn with
              | _ d ihd =>
                intro k hd hk
                by_cases hpk : k ∈ pre
                · exact hP k hpk
                obtain ⟨j, hkj, hji, oj, hoj, hwj⟩ := g.sink (by simpa using hi1) k hk hpk
                obtain ⟨e, he, hb, heq⟩ := waits_spec hwj
                rw [getD_tf (by omega), ← heq]
                rcases Nat.lt_or_ge j i with hlt | hge
                · have hjl := ihd (i - j) (by omega) j rfl hlt
                  exact hc j oj (by omega) hjl (by simpa using hoj) e he hb
                · have : j = i := by omega
                  subst this
                  rw [ho] at hoj
                  cases hoj
                  exact hi3 e he hb
            have := hall _ m rfl hm.1
            rw [hm.2] at this
            cases this
          · obtain ⟨e, he, hb, heq⟩ := waits_spec (g.chain i o h (by simpa using hol))
            have := hi3 e he hb
            rw [heq, ← getD_tf (by omega), ht (i - 1) (by omega) (by omega)] at this
            cases this
        obtain ⟨v, hv, hcase⟩ := hk i o (by simp [hin, hol])
        have hAi := agree_frames D huniq a i (by omega)
        have hsame := same_op (ops := l.toArray) (o := o) (a := frames (D.take i) a) (a' := a') (g.noSel i o ho) (by
          intro t htl
          by_cases hw : ∃ (k : Nat) (u : Value), F σ k = some (some t, u)
          · obtain ⟨k, u, hku⟩ := hw
            obtain ⟨hkn, ok, hok', hdk⟩ := hFd σ k _ u hku
            have hnk : k ∉ nw := fun hnk => g.newApart k hnk ok t (by simpa using hok') hdk i o hin ho htl
            have hDu : D[k]? = some (some t, u) := by rw [hF, if_neg hnk] at hku; exact hku
            by_cases hts : t < a.tmps.size
            · have hki : k ≠ i := fun e => by
                subst e
                rw [hol] at hok'
                cases hok'
                exact g.own k o t hkn ho hdk htl
              rcases (g.pair k i ok o t hkn hin hki (by simpa using hok') ho hdk).2 with h1 | ⟨hlt, hwt⟩ | ⟨hlt, hwt⟩
              · exact absurd htl h1
              · obtain ⟨e, he, hb, heq⟩ := waits_spec hwt
                have hkl : listed.getD k true = true := by
                  rw [getD_tf (by omega), ← heq]; exact hi3 e he hb
                rw [hA.wrote k t u ⟨hkn, hkl⟩ hku hts, hAi.wrote k t u hlt hDu hts]
              · obtain ⟨e, he, hb, heq⟩ := waits_spec hwt
                have hkl : ¬ listed.getD k true = true := fun hkl => by
                  have := hc k ok (by omega) hkl hok' e he hb
                  rw [heq, ← getD_tf (by omega), hi2] at this
                  cases this
                rw [hA.kept t fun k' u' hk' hD' => ?_, hAi.kept t fun k' u' hk' hD' => ?_]
                · by_cases hkk : k' = k
                  · subst hkk; omega
                  · exact huniq k k' t u' u hkk hD' hDu
                · by_cases hkk : k' = k
                  · subst hkk; exact hkl hk'.2
                  · exact hFu σ k k' t u' u hkk hD' hku
            · rw [Array.getElem?_eq_none (show a'.tmps.size ≤ t from by rw [hA.size]; exact Nat.le_of_not_lt hts), Array.getElem?_eq_none (show (frames (D.take i) a).tmps.size ≤ t from by rw [hAi.size]; exact Nat.le_of_not_lt hts)]
          · rw [hA.kept t fun k v _ hkv => hw ⟨k, v, hkv⟩, hAi.kept t fun k v _ hkv => ?_]
            obtain ⟨_, hnk, _⟩ := hDd k t v hkv
            exact hw ⟨k, v, by rw [hF, if_neg hnk]; exact hkv⟩)
        have hset : ∀ k b, (listed.setIfInBounds i true).getD k b = if k = i then true else listed.getD k b := by
          intro k b
          by_cases hki : k = i
          · subst hki; simp [hs, hi1]
          · have : i ≠ k := Ne.symm hki
            simp [Array.getElem?_setIfInBounds_ne this, hki]
        have next : ∀ (σ' : Sig) (u : Value) w'', F σ' i = some (o.dst, u) → Agree (F σ') (fun k => k < n ∧ listed.getD k true = true) a a' → (∀ k ∈ nw, (listed.setIfInBounds i true).getD k true = true → (σ' k).isSome = true) → S σ' w'' →
            wpAny P .any l.toArray Q fuel (listed.setIfInBounds i true) (a'.put o.dst u) w'' := by
          intro σ' u w'' hFi hA' hσ' hSw''
          refine ih _ _ w'' σ' (by simpa using hs) (by have := left_set (j := i) (by omega) hi2; omega) ?_ ?_ hσ' (fun p hp => by rw [hset]; split <;> first | rfl | exact hP p hp) ?_ hSw''
          · intro j hj hjl
            rw [hset, if_neg (by omega)]
            exact ht j hj hjl
          · intro k ok hkl hkt hok' e he hb
            rw [hset]
            split
            · rfl
            · rw [hset] at hkt
              by_cases hki : k = i
              · subst hki
                rw [hol] at hok'
                cases hok'
                exact hi3 e he hb
              · rw [if_neg hki] at hkt
                exact hc k ok hkl hkt hok' e he hb
          · have := hA'.put (j := i) hFi (fun k t u' hki hD' e => hFu σ' i k t u' u hki hD' (by rw [hFi, e]))
            refine ⟨this.defers, this.size, fun k t u hk => this.wrote k t u ?_, fun t ht => this.kept t fun k u hk => ht k u ?_⟩
            · obtain ⟨h1, h2⟩ := hk
              rw [hset] at h2
              by_cases hki : k = i
              · exact .inr hki
              · rw [if_neg hki] at h2; exact .inl ⟨h1, h2⟩
            · rw [hset]
              rcases hk with ⟨h1, h2⟩ | rfl
              · exact ⟨h1, by split <;> first | rfl | exact h2⟩
              · exact ⟨hin, by simp⟩
        have hσset : i ∉ nw → ∀ k ∈ nw, (listed.setIfInBounds i true).getD k true = true → (σ k).isSome = true := fun hni k hk hkl => by
          rw [hset, if_neg (fun (e : k = i) => hni (e ▸ hk))] at hkl
          exact hσ k hk hkl
        unfold wpOp
        simp only [ho]
        rcases hcase with ⟨hni, hn1⟩ | ⟨hni, hw1, hc1⟩ | ⟨hni, hw1, rfl⟩
        · have hg := g.newPlain i hni o ho
          rw [show Region.wanted o (yielded l.toArray a'.tmps) = true by simp [Region.wanted, hg]]
          refine .inl (hn1.at hsame.1 (by rw [hAi.size, hA.size]) hSw _ _ fun u w'' hSu => ?_)
          refine next (σ.upd i u) u w'' (by rw [hF, if_pos hni, hol]; simp [Sig.upd]) ?_ ?_ hSu
          · have hne : ∀ k, (k < n ∧ listed.getD k true = true) → F (σ.upd i u) k = F σ k := fun k hk => by
              have hki : k ≠ i := fun e => by subst e; rw [hi2] at hk; cases hk.2
              rw [hF, hF]
              simp [Sig.upd, hki]
            exact ⟨hA.defers, hA.size, fun k t u' hk hD' => hA.wrote k t u' hk (by rw [← hne k hk]; exact hD'), fun t ht => hA.kept t fun k u' hk => by rw [← hne k hk]; exact ht k u' hk⟩
          · intro k hk hkl
            by_cases hki : k = i
            · simp [Sig.upd, hki]
            · rw [hset, if_neg hki] at hkl
              simpa [Sig.upd, hki] using hσ k hk hkl
        · rw [hsame.2, hw1]
          exact .inl (hc1.at hsame.1 (by rw [hAi.size, hA.size]) hSw _ _ fun w'' hSu => next σ v w'' (by rw [hF, if_neg hni]; exact hDk i o v hin hni hol hv) hA (hσset hni) hSu)
        · rw [hsame.2, hw1]
          exact next σ undef w' (by rw [hF, if_neg hni]; exact hDk i o undef hin hni hol hv) hA (hσset hni) hSw
  refine main _ listed0 a0 w Sig.no hs0 rfl (fun j hnj hj => ?_) (fun k o hk hkt ho e he hb => ?_) (fun k hk hkt => ?_) hp0 ?_ hS
  · cases hjj : listed0.getD j true with
    | false => rfl
    | true =>
      have := (g.preAny j (hl0 j hj hjj)).1
      omega
  · obtain ⟨_, _, o', ho', _, haf⟩ := g.preAny k (hl0 k hk hkt)
    obtain rfl : o' = o := by simpa [ho] using ho'.symm
    have := g.low k o' (by simpa using ho) e he hb
    rw [← getD_tf (by omega)]
    exact hp0 _ (haf e he hb)
  · exact absurd hk (g.preAny k (hl0 k (by have := g.newLt k hk; omega) hkt)).2.1
  · have step : ∀ (r done : List Nat) (a1 : Act), preOk l.toArray n nw done r = true → PreRun P l r a1 a0 → Agree (F Sig.no) (fun k => k ∈ done) a a1 →
        (∀ k ∈ done, ∀ o, l[k]? = some o → ∀ e ∈ o.after, Region.binds .any e = true → e.on ∈ done) → Agree (F Sig.no) (fun k => k ∈ r ∨ k ∈ done) a a0 := by
      intro r
      induction r with
      | nil =>
        intro done a1 _ hr hA _
        obtain rfl : a0 = a1 := hr
        simpa using hA
      | cons p r ih =>
        intro done a1 hpo hr hA hcl
        obtain ⟨hpn, hpw, hpd, ⟨o, hop, hgd, haf⟩, hpo'⟩ := preOk_cons hpo
        have hop : l[p]? = some o := by simpa using hop
        obtain ⟨o', v, ho', hrun, hr'⟩ := hr
        obtain rfl : o' = o := by simpa [hop] using ho'.symm
        obtain ⟨u, hu, hcase⟩ := hk p o' (by simp [hpn, hop])
        have hAi := agree_frames D huniq a p (by omega)
        have hsame := same_op (ops := l.toArray) (o := o') (a := a1) (a' := frames (D.take p) a) (g.noSel p o' (by simpa using hop)) (by
          intro t htl
          by_cases hts : t < a.tmps.size
          · by_cases hw : ∃ (k : Nat) (u : Value), F Sig.no k = some (some t, u)
            · obtain ⟨k, x, hkx⟩ := hw
              obtain ⟨hkn, ok, hok', hdk⟩ := hFd Sig.no k _ x hkx
              have hnk : k ∉ nw := fun hnk => g.newApart k hnk ok t (by simpa using hok') hdk p o' hpn (by simpa using hop) htl
              have hDu : D[k]? = some (some t, x) := by rw [hF, if_neg hnk] at hkx; exact hkx
              have hkp : k ≠ p := fun e => by
                subst e
                rw [hop] at hok'
                cases hok'
                exact g.own k o' t hkn (by simpa using hop) hdk htl
              rcases (g.pair k p ok o' t hkn hpn hkp (by simpa using hok') (by simpa using hop) hdk).2 with h1 | ⟨hlt, hwt⟩ | ⟨hlt, hwt⟩
              · exact absurd htl h1
              · obtain ⟨e, he, hb, heq⟩ := waits_spec hwt
                have hkd : k ∈ done := heq ▸ haf e he hb
                rw [hA.wrote k t x hkd hkx hts, hAi.wrote k t x hlt hDu hts]
              · obtain ⟨e, he, hb, heq⟩ := waits_spec hwt
                have hkd : k ∉ done := fun hkd => hpd (heq ▸ hcl k hkd ok hok' e he hb)
                rw [hA.kept t fun k' u' hk' hD' => ?_, hAi.kept t fun k' u' hk' hD' => ?_]
                · by_cases hkk : k' = k
                  · subst hkk; omega
                  · exact huniq k k' t u' x hkk hD' hDu
                · by_cases hkk : k' = k
                  · subst hkk; exact hkd hk'
                  · exact hFu Sig.no k k' t u' x hkk hD' hkx
            · rw [hA.kept t fun k v _ hkv => hw ⟨k, v, hkv⟩, hAi.kept t fun k v _ hkv => ?_]
              obtain ⟨_, hnk, _⟩ := hDd k t v hkv
              exact hw ⟨k, v, by rw [hF, if_neg hnk]; exact hkv⟩
          · rw [Array.getElem?_eq_none (show (frames (D.take p) a).tmps.size ≤ t from by rw [hAi.size]; exact Nat.le_of_not_lt hts), Array.getElem?_eq_none (show a1.tmps.size ≤ t from by rw [hA.size]; exact Nat.le_of_not_lt hts)])
        have hput : a1.put o'.dst v = a1.put o'.dst u := by
          rcases hcase with ⟨hni, _⟩ | ⟨_, _, hc1⟩ | ⟨_, hw1, _⟩
          · exact absurd hni hpw
          · have h1 := hc1.at (a' := a1) hsame.1.symm (by rw [hAi.size, hA.size]) hS (fun a2 _ => a2 = a1.put o'.dst u) (fun _ _ _ => False) (fun _ _ => rfl)
            unfold Oper.wp at h1
            rw [hrun w] at h1
            simpa only [Oper.upon] using h1
          · exfalso
            simp [Region.wanted, hgd] at hw1
        rw [hput] at hr'
        have hFp : F Sig.no p = some (o'.dst, u) := by rw [hF, if_neg hpw]; exact hDk p o' u hpn hpw hop hu
        have hA' := hA.put (j := p) hFp (fun k t u' hki hD' e => hFu Sig.no p k t u' u hki hD' (by rw [hFp, e]))
        have hA2 : Agree (F Sig.no) (fun k => k ∈ p :: done) a (a1.put o'.dst u) :=
          ⟨hA'.defers, hA'.size, fun k t x hk => hA'.wrote k t x (by
            rcases List.mem_cons.1 hk with h | h
            · exact .inr h
            · exact .inl h), fun t ht => hA'.kept t fun k x hk => ht k x (by
            rcases hk with h | h
            · exact List.mem_cons_of_mem _ h
            · exact h ▸ List.mem_cons_self ..)⟩
        have := ih (p :: done) _ hpo' hr' hA2 (fun k hk o ho e he hb => by
          rcases List.mem_cons.1 hk with rfl | hk
          · rw [hop] at ho
            cases ho
            exact List.mem_cons_of_mem _ (haf e he hb)
          · exact List.mem_cons_of_mem _ (hcl k hk o ho e he hb))
        refine ⟨this.defers, this.size, fun k t x hk => this.wrote k t x ?_, fun t ht => this.kept t fun k x hk => ht k x ?_⟩
        · rcases hk with hk | hk
          · rcases List.mem_cons.1 hk with rfl | hk
            · exact .inr (List.mem_cons_self ..)
            · exact .inl hk
          · exact .inr (List.mem_cons_of_mem _ hk)
        · rcases hk with hk | hk
          · exact .inl (List.mem_cons_of_mem _ hk)
          · rcases List.mem_cons.1 hk with rfl | hk
            · exact .inl (List.mem_cons_self ..)
            · exact .inr hk
    have h0 : Agree (F Sig.no) (fun k => k ∈ ([] : List Nat)) a a := ⟨rfl, rfl, fun k t v hk _ _ => (by cases hk), fun t _ => rfl⟩
    have := step pre [] a g.preOrd ha0 h0 (fun k hk => by cases hk)
    refine ⟨this.defers, this.size, fun k t x hk => this.wrote k t x (.inl (hl0 k (by omega) hk.2)), fun t ht => this.kept t fun k x hk => ht k x ?_⟩
    rcases hk with hk | hk
    · exact ⟨(g.preAny k hk).1, hp0 k hk⟩
    · cases hk

theorem left_none (n : Nat) : left (Array.replicate n false) = n := by
  unfold left
  rw [List.filter_eq_self.2]
  · simp
  · intro k hk
    have hk : k < n := by simpa using hk
    simp [hk]

theorem wp_region_new {id : Nat} {Q : Exit → Act → World → Prop} {a : Act} {w : World} {l : List Oper} (S : Sig → World → Prop) (n : Nat) (nw : List Nat) (hm : P.follows .mixedOrders = true) (hok : calmOk l.toArray n nw = true) (hS : S Sig.no w.drew)
    (h : calm P l.toArray S nw (fun a' => ∀ σ w', (∀ k ∈ nw, (σ k).isSome = true) → S σ w' → wpList P l.toArray Q (l.drop n) (putNew l nw σ a') w') 0 (l.take n) a) : (Code.region id l.toArray true).wp P Q a w := by
  refine wp_region_any hm ?_
  have hl := left_none l.toArray.size
  have := wpAny_new (a0 := a) S n nw [] hok hS h (Array.replicate l.toArray.size false) (by simp) (fun k hk hkt => by simp [hk] at hkt) (fun p hp => by cases hp) rfl
  rw [hl] at this
  exact this

/-- What is listed when these were taken. -/
def listedBy (n : Nat) (ps : List Nat) : Array Bool := ps.foldl (fun l p => l.setIfInBounds p true) (Array.replicate n false)
theorem foldl_listed (ps : List Nat) : ∀ (L : Array Bool) (k : Nat) (b : Bool), k < L.size → (ps.foldl (fun l p => l.setIfInBounds p true) L).getD k b = (decide (k ∈ ps) || L.getD k b) ∧ (ps.foldl (fun l p => l.setIfInBounds p true) L).size = L.size := by
  induction ps with
  | nil => intro L k b _; simp
  | cons p ps ih =>
    intro L k b hk
    obtain ⟨h1, h2⟩ := ih (L.setIfInBounds p true) k b (by simpa using hk)
    refine ⟨?_, by simpa using h2⟩
    rw [List.foldl_cons, h1]
    by_cases hkp : k = p
    · subst hkp; simp [hk]
    · have : p ≠ k := Ne.symm hkp
      simp [Array.getElem?_setIfInBounds_ne this, hkp]
/-- That each of them is free when it is taken. -/
def freeOk (ops : Array Oper) : List Nat → List Nat → Bool
  | _, [] => true
  | done, p :: r => Region.free .any ops (listedBy ops.size done) p && freeOk ops (done ++ [p]) r

/-- Those of 'pre', which wait for nobody but one another and yield their values in whatever world, need not come ahead of the n-th. -/
theorem wp_region_pres {id : Nat} {Q : Exit → Act → World → Prop} {a a0 : Act} {w : World} {l : List Oper} (S : Sig → World → Prop) (n : Nat) (nw pre : List Nat) (hm : P.follows .mixedOrders = true) (hok : calmOk l.toArray n nw pre = true)
    (hns : Region.noSelect l.toArray = true) (hfr : freeOk l.toArray [] pre = true)
    (hQ : ∀ c a d (u : Value) w, Q (.panic c) (a.put d u) w → Q (.panic c) a w) (ha0 : PreRun P l pre a a0) (hS : S Sig.no w.drew)
    (h : calm P l.toArray S nw (fun a' => ∀ σ w', (∀ k ∈ nw, (σ k).isSome = true) → S σ w' → wpList P l.toArray Q (l.drop n) (putNew l nw σ a') w') 0 (l.take n) a) : (Code.region id l.toArray true).wp P Q a w := by
  refine wp_region_any hm ?_
  have g := good_of hok
  have hl := left_none l.toArray.size
  have hall := foldl_listed pre (Array.replicate l.toArray.size false)
  have hsz : (listedBy l.toArray.size pre).size = l.length := by
    unfold listedBy
    rcases Nat.eq_zero_or_pos l.length with h0 | h0
    · have : ∀ (ps : List Nat) (L : Array Bool), (ps.foldl (fun l p => l.setIfInBounds p true) L).size = L.size := by
        intro ps
        induction ps with
        | nil => intro L; rfl
        | cons p ps ih => intro L; rw [List.foldl_cons, ih]; simp
      rw [this]; simp
    · rw [(hall 0 true (by simpa using h0)).2]; simp
  have key := wpAny_new (a0 := a0) S n nw pre hok hS h (listedBy l.toArray.size pre) hsz
    (fun k hk hkt => by
      unfold listedBy at hkt
      rw [(hall k true (by simpa using hk)).1] at hkt
      simpa [hk] using hkt) (fun p hp => by
      have hpn := (g.preAny p hp).1
      have hle := g.le
      unfold listedBy
      rw [(hall p true (by simp only [Array.size_replicate]; omega)).1]
      simp [hp]) ha0
  have step : ∀ (r done : List Nat) (a1 : Act), preOk l.toArray n nw done.reverse r = true → freeOk l.toArray done r = true → PreRun P l r a1 a0 →
      wpAny P .any l.toArray Q (left (listedBy l.toArray.size (done ++ r))) (listedBy l.toArray.size (done ++ r)) a0 w.drew → wpAny P .any l.toArray Q (left (listedBy l.toArray.size done)) (listedBy l.toArray.size done) a1 w.drew := by
    intro r
    induction r with
    | nil =>
      intro done a1 _ _ hr hw
      obtain rfl : a0 = a1 := hr
      simpa using hw
    | cons p r ih =>
      intro done a1 hpo hfo hr hw
      obtain ⟨hpn, hpw, hpd, ⟨o, hop, hgd, haf⟩, hpo'⟩ := preOk_cons hpo
      obtain ⟨o', v, ho', hrun, hr'⟩ := hr
      obtain rfl : o' = o := by simpa [ho'] using hop
      unfold freeOk at hfo
      rw [Bool.and_eq_true] at hfo
      have hplen : p < l.toArray.size := by have := g.le; omega
      have hd := foldl_listed done (Array.replicate l.toArray.size false)
      have hdsz : (listedBy l.toArray.size done).size = l.toArray.size := by unfold listedBy; rw [(hd p true (by simpa using hplen)).2]; simp
      have hset : (listedBy l.toArray.size done).setIfInBounds p true = listedBy l.toArray.size (done ++ [p]) := by unfold listedBy; rw [List.foldl_append]; rfl
      have hpf : (listedBy l.toArray.size done).getD p true = false := by
        unfold listedBy
        rw [(hd p true (by simpa using hplen)).1]
        have hpd' : p ∉ done := by simpa using hpd
        have hpl2 : p < l.length := by simpa using hplen
        simp [hpd', hpl2]
      have hl2 := left_set (listed := listedBy l.toArray.size done) (j := p) (by omega) hpf
      have hnext := ih (done ++ [p]) _ (by simpa using hpo') hfo.2 hr' (by simpa using hw)
      rw [hset] at hl2
      rw [← hset] at hnext
      have hready : (Region.ready .any l.toArray (listedBy l.toArray.size done)).contains p = true := by
        simp only [List.contains_iff_mem]
        refine mem_ready.2 ⟨by omega, hpf, o', hop, fun e he hb => ?_⟩
        have hon := haf e he hb
        have hlow := g.low p o' hop e he hb
        unfold listedBy
        rw [(hd e.on false (by simp only [Array.size_replicate]; omega)).1]
        simp only [List.mem_reverse] at hon
        simp [hon]
      have hfin := wpAny_take (v := v) (md := .any) hop hns hfo.1 hready (fun c a w h => hQ c _ _ _ w h) (.inl ⟨by simp [Region.wanted, hgd], hrun⟩) hnext
      rw [hl2, ← hset]
      exact hfin
  have := step pre [] a (by simpa using g.preOrd) hfr ha0 (by simpa using key)
  have e0 : listedBy l.toArray.size [] = Array.replicate l.toArray.size false := rfl
  rw [e0, hl] at this
  exact this

/-- The p-th, which waits for nobody and yields v in whatever world, need not come ahead of the n-th. -/
theorem wp_region_pre {id : Nat} {Q : Exit → Act → World → Prop} {a : Act} {w : World} {l : List Oper} (S : Sig → World → Prop) (n : Nat) (nw : List Nat) (p : Nat) (v : Value) (o : Oper) (hp : l[p]? = some o) (hm : P.follows .mixedOrders = true) (hok : calmOk l.toArray n nw [p] = true)
    (hns : Region.noSelect l.toArray = true) (hfr : Region.free .any l.toArray (Array.replicate l.toArray.size false) p = true)
    (hQ : ∀ c a d (u : Value) w, Q (.panic c) (a.put d u) w → Q (.panic c) a w)
    (hv : ∀ w, (execOp a.eval o).run P w = .ok (.value v) w) (hS : S Sig.no w.drew)
    (h : calm P l.toArray S nw (fun a' => ∀ σ w', (∀ k ∈ nw, (σ k).isSome = true) → S σ w' → wpList P l.toArray Q (l.drop n) (putNew l nw σ a') w') 0 (l.take n) a) : (Code.region id l.toArray true).wp P Q a w :=
  wp_region_pres S n nw [p] hm hok hns (by unfold freeOk; rw [show listedBy l.toArray.size [] = Array.replicate l.toArray.size false from rfl, hfr]; rfl) hQ ⟨o, v, hp, hv, rfl⟩ hS h

/-- Without new ones. -/
theorem wp_region_calm {id : Nat} {Q : Exit → Act → World → Prop} {a : Act} {w : World} {l : List Oper} (S : World → Prop) (n : Nat) (hm : P.follows .mixedOrders = true) (hok : calmOk l.toArray n [] = true) (hS : S w.drew)
    (h : calm P l.toArray (fun _ => S) [] (fun a' => ∀ w', S w' → wpList P l.toArray Q (l.drop n) a' w') 0 (l.take n) a) : (Code.region id l.toArray true).wp P Q a w := by
  refine wp_region_new (fun _ => S) n [] hm hok hS ?_
  have mono : ∀ (R R' : Act → Prop), (∀ a, R a → R' a) → ∀ (m : List Oper) (i : Nat) (a : Act), calm P l.toArray (fun _ => S) [] R i m a → calm P l.toArray (fun _ => S) [] R' i m a := by
    intro R R' hRR m
    induction m with
    | nil => exact fun i a h => hRR a h
    | cons o m ih =>
      intro i a h
      rcases h with ⟨h1, h2, h3⟩ | ⟨h1, h2, v, h3, h4⟩ | ⟨h1, h2, h3⟩
      · exact .inl ⟨h1, h2, ih _ _ h3⟩
      · exact .inr (.inl ⟨h1, h2, v, h3, ih _ _ h4⟩)
      · exact .inr (.inr ⟨h1, h2, ih _ _ h3⟩)
  exact mono _ _ (fun a h _ w' _ hw => h w' hw) _ _ _ h
end
end Go.Proofs.Ytfeamlbkogigkaa
