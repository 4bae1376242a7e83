/-
  Texts of this claim, one behind the other: As XCalm; split; split; split; lz; lz; split; lz; huff; huff; huff; huff; huff; Bits; The document's Reader; inflate, the document's; huff; As XCalm; A call that changes what there is, in a region that draws its order; inflate, the document's; inflate, the document's; inflate, the document's; inflate, the document's; flate; inflate, the document's; flate; inflate, the document's; split; split; split; split; lz; lz; split.
-/
import Derived.Test.YtpbodonmiepilaaSm5
import Derived.Deep.LoopGhost
import Derived.WalkLawsBesides
import Derived.WalkSpells
import Derived.Deep.DeepCutAuto
import Derived.Deep.CutBlock
import Derived.Test.YtpbodonmiepilaaRows
set_option linter.unusedVariables false
/- As XCalm: a new operation may look at what other new ones yielded that it waits for. No program in sight. (Written by tools/tre.py.) -/
namespace Go.Proofs.Ytpbodonmiepilaa.Tre
open Go.RowKit

/-- What the new ones write nobody ahead of the n-th looks at, but those new ones that eat it, which wait for it. -/
def eatOk (ops : Array Oper) (n : Nat) (nw : List Nat) (eat : Nat → List Nat) : Bool :=
  (nw.all fun k => decide (k < n) && match ops[k]? with
    | none => true
    | some ok => ok.guard.isNone && match ok.dst with
      | none => true
      | some d => (List.range n).all fun j => match ops[j]? with
        | none => true
        | some oj => !(oj.looksAt ops).contains d || (eat j).contains k) &&
  (List.range n).all fun i => (eat i).all fun k => nw.contains i && nw.contains k && decide (k < i) && match ops[i]? with
    | none => false
    | some oi => waits oi k

structure Eats (ops : Array Oper) (n : Nat) (nw : List Nat) (eat : Nat → List Nat) : Prop where
  newLt : ∀ k ∈ nw, k < n
  newPlain : ∀ k ∈ nw, ∀ o, ops[k]? = some o → o.guard = none
  newApart : ∀ k ∈ nw, ∀ (ok : Oper) (d : Tmp), ops[k]? = some ok → ok.dst = some d → ∀ (j : Nat) (oj : Oper), j < n → ops[j]? = some oj → d ∈ oj.looksAt ops → k ∈ eat j
  eats : ∀ i, i < n → ∀ k ∈ eat i, i ∈ nw ∧ k ∈ nw ∧ k < i ∧ ∀ o, ops[i]? = some o → waits o k = true

theorem eats_of {ops : Array Oper} {n : Nat} {nw : List Nat} {eat : Nat → List Nat} (h : eatOk ops n nw eat = true) : Eats ops n nw eat := by
  unfold eatOk at h
  rw [Bool.and_eq_true] at h
  obtain ⟨hnew, he⟩ := h
  have hnw : ∀ k ∈ nw, k < n ∧ ∀ ok, ops[k]? = some ok → ok.guard = none ∧ ∀ d, ok.dst = some d → ∀ (j : Nat) (oj : Oper), j < n → ops[j]? = some oj → d ∈ oj.looksAt ops → k ∈ eat j := by
    intro k hk
    rw [List.all_eq_true] at hnew
    have hh := hnew k hk
    rw [Bool.and_eq_true, decide_eq_true_eq] at hh
    refine ⟨hh.1, fun ok hok => ?_⟩
    have h2 := hh.2
    simp only [hok, Bool.and_eq_true] at h2
    refine ⟨by simpa using h2.1, fun d hd j oj hj hoj hdl => ?_⟩
    have h3 := h2.2
    simp only [hd, List.all_eq_true, List.mem_range] at h3
    have h4 := h3 j hj
    simp only [hoj, Bool.or_eq_true, Bool.not_eq_true'] at h4
    rcases h4 with h4 | h4
    · exact absurd hdl (by simpa using h4)
    · simpa using h4
  refine ⟨fun k hk => (hnw k hk).1, fun k hk o ho => ((hnw k hk).2 o ho).1, fun k hk ok d hok hd j oj hj hoj => ((hnw k hk).2 ok hok).2 d hd j oj hj hoj, fun i hi k hk => ?_⟩
  rw [List.all_eq_true] at he
  have h1 := he i (List.mem_range.2 hi)
  rw [List.all_eq_true] at h1
  have h2 := h1 k hk
  simp only [Bool.and_eq_true, decide_eq_true_eq] at h2
  obtain ⟨⟨⟨a1, a2⟩, a3⟩, a4⟩ := h2
  refine ⟨by simpa using a1, by simpa using a2, a3, fun o ho => ?_⟩
  simpa [ho] using a4

/-- In every world that meets S, when what it eats was done, the operation yields something new, of which S then speaks. -/
def New1 (P : Program) (l : List Oper) (S : Sig → World → Prop) (eat : Nat → List Nat) (i : Nat) (o : Oper) (a : Act) : Prop :=
  ∀ σ w, S σ w → σ i = none → (∀ k ∈ eat i, (σ k).isSome = true) → ∀ (K : Act → World → Prop) (Q : Exit → Act → World → Prop), (∀ v w', S (σ.upd i v) w' → K ((putNew l (eat i) σ a).put o.dst v) w') → o.wp P (putNew l (eat i) σ a) w K Q

def calm (P : Program) (l : List Oper) (eat : Nat → List Nat) (ops : Array Oper) (S : Sig → World → Prop) (nw : List Nat) (R : Act → Prop) : Nat → List Oper → Act → Prop
  | _, [], a => R a
  | i, o :: rest, a => (i ∈ nw ∧ New1 P l S eat i o a ∧ calm P l eat ops S nw R (i + 1) rest a) ∨
      (i ∉ nw ∧ Region.wanted o (yielded ops a.tmps) = true ∧ ∃ v, Calm1 P S o a v ∧ calm P l eat ops S nw R (i + 1) rest (a.put o.dst v)) ∨
      (i ∉ nw ∧ Region.wanted o (yielded ops a.tmps) = false ∧ calm P l eat ops S nw R (i + 1) rest (a.put o.dst undef))

section
variable {P : Program} {l : List Oper} {eat : Nat → List Nat} {ops : Array Oper} {S : Sig → World → Prop} {nw : List Nat} {R : Act → Prop} {a : Act} {o : Oper} {rest : List Oper} {i : Nat}
theorem calm_nil (h : R a) : calm P l eat ops S nw R i [] a := h
theorem calm_step (v : Value) (hi : i ∉ nw) (hw : Region.wanted o (yielded ops a.tmps) = true)
    (h1 : ∀ σ w, S σ w → ∀ (K : Act → World → Prop) (Q : Exit → Act → World → Prop), (∀ w', S σ w' → K (a.put o.dst v) w') → o.wp P a w K Q) (h : calm P l eat ops S nw R (i + 1) rest (a.put o.dst v)) : calm P l eat ops S nw R i (o :: rest) a := .inr (.inl ⟨hi, hw, v, h1, h⟩)
theorem calm_skip (hi : i ∉ nw) (hw : Region.wanted o (yielded ops a.tmps) = false)
    (h : calm P l eat ops S nw R (i + 1) rest (a.put o.dst undef)) : calm P l eat ops S nw R i (o :: rest) a := .inr (.inr ⟨hi, hw, h⟩)
theorem calm_new (hi : i ∈ nw)
    (h1 : New1 P l S eat i o a) (h : calm P l eat ops S nw R (i + 1) rest a) : calm P l eat ops S nw R i (o :: rest) a := .inl ⟨hi, h1, h⟩
end

section
variable {P : Program} {l : List Oper} {ops : Array Oper} {S : Sig → World → Prop} {nw : List Nat} {eat : Nat → List Nat}
theorem calm_frames {R : Act → Prop} : ∀ (m : List Oper) (i : Nat) (a : Act), calm P l eat ops S nw R i m a →
    ∃ vs : List Value, vs.length = m.length ∧ R (frames ((dets nw i m).zip vs) a) ∧
      ∀ k o, m[k]? = some o → ∃ v, vs[k]? = some v ∧
        ((i + k ∈ nw ∧ New1 P l S eat (i + k) o (frames (((dets nw i m).zip vs).take k) a)) ∨
         (i + k ∉ nw ∧ Region.wanted o (yielded ops (frames (((dets nw i m).zip vs).take k) a).tmps) = true ∧ Calm1 P S o (frames (((dets nw i m).zip vs).take k) a) v) ∨
         (i + k ∉ nw ∧ Region.wanted o (yielded ops (frames (((dets nw i m).zip vs).take k) a).tmps) = false ∧ v = undef)) := by
  intro m
  induction m with
  | nil => intro i a h; exact ⟨[], rfl, h, fun k o hk => by simp at hk⟩
  | cons o m ih =>
    intro i a h
    have step : ∀ (v : Value) (a' : Act), a' = a.put (if i ∈ nw then none else o.dst) v → calm P l eat ops S nw R (i + 1) m a' →
        ((i ∈ nw ∧ New1 P l S eat i o a) ∨ (i ∉ nw ∧ Region.wanted o (yielded ops a.tmps) = true ∧ Calm1 P S o a v) ∨ (i ∉ nw ∧ Region.wanted o (yielded ops a.tmps) = false ∧ v = undef)) → ∃ vs : List Value, vs.length = (o :: m).length ∧ R (frames ((dets nw i (o :: m)).zip vs) a) ∧
      ∀ k o', (o :: m)[k]? = some o' → ∃ v, vs[k]? = some v ∧
        ((i + k ∈ nw ∧ New1 P l S eat (i + k) o' (frames (((dets nw i (o :: m)).zip vs).take k) a)) ∨
         (i + k ∉ nw ∧ Region.wanted o' (yielded ops (frames (((dets nw i (o :: m)).zip vs).take k) a).tmps) = true ∧ Calm1 P S o' (frames (((dets nw i (o :: m)).zip vs).take k) a) v) ∨
         (i + k ∉ nw ∧ Region.wanted o' (yielded ops (frames (((dets nw i (o :: m)).zip vs).take k) a).tmps) = false ∧ v = undef)) := by
      intro v a' ha hc h0
      obtain ⟨vs, hl, hR, hk⟩ := ih _ _ hc
      refine ⟨v :: vs, by simp [hl], by rw [ha] at hR; exact hR, fun k o' hk' => ?_⟩
      cases k with
      | zero => simp at hk'; subst hk'; exact ⟨v, rfl, h0⟩
      | succ k =>
        have := hk k o' (by simpa using hk')
        rw [ha, show i + 1 + k = i + (k + 1) by omega] at this
        exact this
    rcases h with ⟨hi, h1, h2⟩ | ⟨hi, hw, v, h1, h2⟩ | ⟨hi, hw, h2⟩
    · exact step undef a (by rw [if_pos hi]; rfl) h2 (.inl ⟨hi, h1⟩)
    · exact step v _ (by rw [if_neg hi]) h2 (.inr (.inl ⟨hi, hw, h1⟩))
    · exact step undef _ (by rw [if_neg hi]) h2 (.inr (.inr ⟨hi, hw, rfl⟩))

theorem New1.at {i : Nat} {o : Oper} {a0 a a' : Act} {σ : Sig} {w : World} (h : New1 P l S eat i o a0) (ha : putNew l (eat i) σ a0 = a) (he : execOp a'.eval o = execOp a.eval o) (hs : a.tmps.size = a'.tmps.size) (hw : S σ w) (hni : σ i = none) (hdn : ∀ k ∈ eat i, (σ k).isSome = true)
    (K : Act → World → Prop) (Q : Exit → Act → World → Prop) (hK : ∀ v w', S (σ.upd i v) w' → K (a'.put o.dst v) w') : o.wp P a' w K Q := by
  have h1 := h σ w hw hni hdn (fun a1 w1 => ∃ v, a1 = (putNew l (eat i) σ a0).put o.dst v ∧ S (σ.upd i v) w1) (fun _ _ _ => False) (fun v w' hw' => ⟨v, rfl, hw'⟩)
  rw [ha] at h1
  unfold Oper.wp at *
  rw [he]
  generalize (execOp a.eval o).run P w = r at *
  cases r with
  | ok n w' =>
    cases n <;> simp only [Oper.upon] at h1 ⊢
    case value u => obtain ⟨v, e1, e2⟩ := h1; rw [put_eq hs e1]; exact hK _ _ e2
    case skip => obtain ⟨v, e1, e2⟩ := h1; rw [put_eq hs e1]; exact hK _ _ e2
    case defer d =>
      obtain ⟨v, e1, e2⟩ := h1
      have := congrArg (fun x => x.defers.length) e1
      cases hd : o.dst <;> simp [Act.put, hd] at this
    case enter f args =>
      refine Calls.mono h1 fun e w'' he => ?_
      cases e with
      | returned u =>
        show K (a'.put o.dst u) w''
        obtain ⟨v, e1, e2⟩ := he
        rw [put_eq hs e1]; exact hK _ _ e2
      | panicked c => exact he.elim
      | outgrown => obtain ⟨_, _, hh⟩ := he; exact hh.elim
    case row row args => exact Rows.mono h1 fun u w'' he => by obtain ⟨v, e1, e2⟩ := he; rw [put_eq hs e1]; exact hK _ _ e2
  | halt x w' => cases x <;> simp only [Oper.upon] at h1 ⊢
theorem wpAny_new {Q : Exit → Act → World → Prop} {a : Act} {w : World} {l : List Oper} (S : Sig → World → Prop) (n : Nat) (nw : List Nat) (eat : Nat → List Nat) (hok : calmOk l.toArray n [] = true) (hek : eatOk l.toArray n nw eat = true) (hS : S Sig.no w)
    (h : calm P l eat l.toArray S nw (fun a' => ∀ σ w', (∀ k ∈ nw, (σ k).isSome = true) → S σ w' → wpList P l.toArray Q (l.drop n) (putNew l nw σ a') w') 0 (l.take n) a)
    (listed0 : Array Bool) (hs0 : listed0.size = l.length) (hl0 : ∀ k, k < l.length → listed0.getD k true = false) :
    wpAny P .any l.toArray Q (left listed0) listed0 a w := by
  have g := good_of hok
  have q := eats_of hek
  have hnl : n ≤ l.length := by simpa using g.le
  obtain ⟨vs, hvl, hR, hk⟩ := calm_frames _ _ _ h
  have hvn : vs.length = n := by simp [hvl, hnl]
  obtain ⟨D, hD⟩ : ∃ D, (dets nw 0 (l.take n)).zip vs = D := ⟨_, rfl⟩
  rw [hD] at hR hk
  simp only [Nat.zero_add] at hk
  have hDl : D.length = n := by rw [← hD]; simp [dets_length, hvn, hnl]
  have hget : ∀ k, k < n → (dets nw 0 (l.take n))[k]? = (l[k]?).map fun o => if k ∈ nw then none else o.dst := by
    intro k hk
    rw [dets_get]
    simp [hk]
  -- the k-th of D
  have hDk : ∀ (k : Nat) (o : Oper) (v : Value), k < n → k ∉ nw → l[k]? = some o → vs[k]? = some v → D[k]? = some (o.dst, v) := by
    intro k o v hkn hnk ho hv
    rw [← hD, List.getElem?_zip_eq_some]
    refine ⟨?_, hv⟩
    rw [hget k hkn, ho]
    simp [hnk]
  have hDd : ∀ (k : Nat) (t : Tmp) (v : Value), D[k]? = some (some t, v) → k < n ∧ k ∉ nw ∧ ∃ o, l[k]? = some o ∧ o.dst = some t := by
    intro k t v hk
    have hkn : k < n := by rw [← hDl]; exact (List.getElem?_eq_some_iff.1 hk).1
    rw [← hD, List.getElem?_zip_eq_some] at hk
    obtain ⟨h1, _⟩ := hk
    rw [hget k hkn, Option.map_eq_some_iff] at h1
    obtain ⟨o, ho, hd⟩ := h1
    by_cases hnk : k ∈ nw
    · simp [hnk] at hd
    · rw [if_neg hnk] at hd
      exact ⟨hkn, hnk, o, ho, hd⟩
  have huniq : ∀ (j k : Nat) (t : Tmp) (u v : Value), k ≠ j → D[k]? = some (some t, u) → D[j]? ≠ some (some t, v) := by
    intro j k t u v hkj h1 h2
    obtain ⟨hkn, _, ok, hok', hdk⟩ := hDd k _ u h1
    obtain ⟨hjn, _, oj, hoj, hdj⟩ := hDd j _ v h2
    exact (g.pair k j ok oj t hkn hjn hkj (by simpa using hok') (by simpa using hoj) hdk).1 hdj
  -- .. with the new ones' values
  obtain ⟨F, hF⟩ : ∃ F : Sig → Nat → Option (Option Tmp × Value), ∀ σ k, F σ k = if k ∈ nw then (l[k]?).map fun o => (o.dst, (σ k).getD undef) else D[k]? := ⟨_, fun _ _ => rfl⟩
  have hFd : ∀ (σ : Sig) (k : Nat) (t : Tmp) (v : Value), F σ k = some (some t, v) → k < n ∧ ∃ o, l[k]? = some o ∧ o.dst = some t := by
    intro σ k t v hk
    rw [hF] at hk
    by_cases hnk : k ∈ nw
    · rw [if_pos hnk, Option.map_eq_some_iff] at hk
      obtain ⟨o, ho, hd⟩ := hk
      exact ⟨q.newLt k hnk, o, ho, by simp at hd; exact hd.1⟩
    · rw [if_neg hnk] at hk
      obtain ⟨h1, _, h3⟩ := hDd k t v hk
      exact ⟨h1, h3⟩
  have hFu : ∀ (σ : Sig) (j k : Nat) (t : Tmp) (u v : Value), k ≠ j → F σ k = some (some t, u) → F σ j ≠ some (some t, v) := by
    intro σ j k t u v hkj h1 h2
    obtain ⟨hkn, ok, hok', hdk⟩ := hFd σ k _ u h1
    obtain ⟨hjn, oj, hoj, hdj⟩ := hFd σ j _ v h2
    exact (g.pair k j ok oj t hkn hjn hkj (by simpa using hok') (by simpa using hoj) hdk).1 hdj
  have hend : ∀ (E : Nat → Prop) (a' : Act) (σ : Sig), (∀ k, k < n → E k) → Agree (F σ) E a a' → a' = putNew l nw σ (frames D a) := by
    intro E a' σ hall hA
    have hB := agree_frames D huniq a n (by omega)
    rw [List.take_of_length_le (by omega)] at hB
    obtain ⟨k1, k2⟩ := putNew_keeps l σ nw (frames D a)
    refine act_ext ?_ (hA.defers.trans (hB.defers.symm.trans k1.symm))
    apply Array.ext_getElem?
    intro t
    by_cases hts : t < a.tmps.size
    · by_cases hw : ∃ (k : Nat) (v : Value), F σ k = some (some t, v)
      · obtain ⟨k, v, hkv⟩ := hw
        obtain ⟨hkn, o, ho, hd⟩ := hFd σ k _ v hkv
        rw [hA.wrote k t v (hall k hkn) hkv hts]
        have hkv' := hkv
        rw [hF] at hkv
        by_cases hnk : k ∈ nw
        · rw [if_pos hnk, ho] at hkv
          simp at hkv
          rw [putNew_new l σ t k nw _ hnk (by simp [ho, hd]) (fun j hj hdj => ?_) (by rw [hB.size]; exact hts), hkv.2]
          by_cases hjk : j = k
          · exact hjk
          · exfalso
            cases hlj : l[j]? with
            | none => rw [hlj] at hdj; cases hdj
            | some oj =>
              rw [hlj] at hdj
              refine hFu σ j k t v ((σ j).getD undef) (Ne.symm hjk) hkv' ?_
              rw [hF, if_pos hj, hlj]
              simp at hdj
              simp [hdj]
        · rw [if_neg hnk] at hkv
          rw [putNew_old l σ t nw _ fun j hj hdj => ?_, hB.wrote k t v hkn hkv hts]
          cases hlj : l[j]? with
          | none => rw [hlj] at hdj; cases hdj
          | some oj =>
            rw [hlj] at hdj
            refine hFu σ j k t v ((σ j).getD undef) (fun e => hnk (e ▸ hj)) hkv' ?_
            rw [hF, if_pos hj, hlj]
            simp at hdj
            simp [hdj]
      · rw [hA.kept t fun k v _ hkv => hw ⟨k, v, hkv⟩, putNew_old l σ t nw _ fun j hj hdj => ?_, hB.kept t fun k v _ hkv => ?_]
        · obtain ⟨_, hnk, _⟩ := hDd k t v hkv
          exact hw ⟨k, v, by rw [hF, if_neg hnk]; exact hkv⟩
        · cases hlj : l[j]? with
          | none => rw [hlj] at hdj; cases hdj
          | some oj =>
            rw [hlj] at hdj
            refine hw ⟨j, (σ j).getD undef, ?_⟩
            rw [hF, if_pos hj, hlj]
            simp at hdj
            simp [hdj]
    · rw [Array.getElem?_eq_none (show a'.tmps.size ≤ t from by rw [hA.size]; exact Nat.le_of_not_lt hts), Array.getElem?_eq_none (show (putNew l nw σ (frames D a)).tmps.size ≤ t from by rw [k2, hB.size]; exact Nat.le_of_not_lt hts)]
  have main : ∀ (fuel : Nat) (listed : Array Bool) (a' : Act) (w' : World) (σ : Sig), listed.size = l.length → left listed = fuel → (∀ j, n ≤ j → j < l.length → listed.getD j true = false) →
      (∀ k o, k < l.length → listed.getD k true = true → l[k]? = some o → ∀ e ∈ o.after, Region.binds .any e = true → listed.getD e.on false = true) →
      (∀ k ∈ nw, (listed.getD k true = true → (σ k).isSome = true) ∧ (listed.getD k true = false → σ k = none)) →
      Agree (F σ) (fun k => k < n ∧ listed.getD k true = true) a a' → S σ w' → wpAny P .any l.toArray Q fuel listed a' w' := by
    intro fuel
    induction fuel with
    | zero =>
      intro listed a' w' σ hs hl ht hc hσ hA hSw
      have hall : ∀ k, k < l.length → listed.getD k true = true := fun k hk => by
        cases hkk : listed.getD k true with
        | true => rfl
        | false => have := left_pos (j := k) (by omega) hkk; omega
      have hn : n = l.length := by
        rcases Nat.lt_or_ge n l.length with h | h
        · have := hall n h; rw [ht n (Nat.le_refl _) h] at this; cases this
        · omega
      refine tail_any g 0 n listed a' w' hs (Nat.le_refl _) (fun k _ hk => hall k hk) ht hl ?_
      rw [hend _ a' σ (fun k hk => ⟨hk, hall k (by omega)⟩) hA]
      exact hR σ w' (fun k hk => (hσ k hk).1 (hall k (by have := q.newLt k hk; omega))) hSw
    | succ fuel ih =>
      intro listed a' w' σ hs hl ht hc hσ hA hSw
      by_cases hpre : ∀ k, k < n → listed.getD k true = true
      · refine tail_any g (fuel + 1) n listed a' w' hs (Nat.le_refl _) (fun k hk _ => hpre k hk) ht hl ?_
        rw [hend _ a' σ (fun k hk => ⟨hk, hpre k hk⟩) hA]
        exact hR σ w' (fun k hk => (hσ k hk).1 (hpre k (q.newLt k hk))) hSw
      · -- the least that is not listed is ready
        have hex : ∃ k, k < n ∧ listed.getD k true = false := by
          rcases Classical.em (∃ k, k < n ∧ listed.getD k true = false) with h | h
          · exact h
          · exact absurd (fun k hk => by
              cases hkk : listed.getD k true with
              | true => rfl
              | false => exact absurd ⟨k, hk, hkk⟩ h) hpre
        obtain ⟨m, hm, hmin⟩ : ∃ m, (m < n ∧ listed.getD m true = false) ∧ ∀ k, k < m → listed.getD k true = true := by
          obtain ⟨k, hk⟩ := hex
          induction k using Nat.strongRecOn with
          | _ k ihk =>
            rcases Classical.em (∃ j, j < k ∧ listed.getD j true = false) with ⟨j, hj, hjl⟩ | h
            · exact ihk j hj ⟨by omega, hjl⟩
            · refine ⟨k, hk, fun j hj => ?_⟩
              cases hjj : listed.getD j true with
              | true => rfl
              | false => exact absurd ⟨j, hj, hjj⟩ h
        obtain ⟨om, hom⟩ : ∃ o, l[m]? = some o := ⟨_, List.getElem?_eq_getElem (by omega)⟩
        have hready : m ∈ Region.ready .any l.toArray listed := mem_ready.2 ⟨by simp; omega, hm.2, om, by simpa using hom, fun e he hb => by
          have := g.low m om (by simpa using hom) e he hb
          rw [← getD_tf (by omega)]
          exact hmin _ this⟩
        refine ⟨fun h => (by rw [h] at hready; cases hready), fun i hi => ?_⟩
        obtain ⟨hi1, hi2, o, ho, hi3⟩ := mem_ready.1 hi
        have hi1 : i < l.length := by simpa using hi1
        have hol : l[i]? = some o := by simpa using ho
        have hin : i < n := by
          rcases Nat.lt_trichotomy i n with h | h | h
          · exact h
          · -- all that it waits for, and so all, are listed
            subst h
            have hall : ∀ d k, i - k = d → k < i → listed.getD k true = true := by
              intro d
              induction d using Nat.strongRecOn with
              | _ d ihd =>
                intro k hd hk
                obtain ⟨j, hkj, hji, oj, hoj, hwj⟩ := g.sink (by simpa using hi1) k hk (by simp)
                obtain ⟨e, he, hb, heq⟩ := waits_spec hwj
                rw [getD_tf (by omega), ← heq]
                rcases Nat.lt_or_ge j i with hlt | hge
                · have hjl := ihd (i - j) (by omega) j rfl hlt
                  exact hc j oj (by omega) hjl (by simpa using hoj) e he hb
                · have : j = i := by omega
                  subst this
                  rw [ho] at hoj
                  cases hoj
                  exact hi3 e he hb
            have := hall _ m rfl hm.1
            rw [hm.2] at this
            cases this
          · obtain ⟨e, he, hb, heq⟩ := waits_spec (g.chain i o h (by simpa using hol))
            have := hi3 e he hb
            rw [heq, ← getD_tf (by omega), ht (i - 1) (by omega) (by omega)] at this
            cases this
        obtain ⟨v, hv, hcase⟩ := hk i o (by simp [hin, hol])
        have hAi := agree_frames D huniq a i (by omega)
        obtain ⟨kp1, kp2⟩ := putNew_keeps l σ (eat i) (frames (D.take i) a)
        have hsame := same_op (ops := l.toArray) (o := o) (a := putNew l (eat i) σ (frames (D.take i) a)) (a' := a') (g.noSel i o ho) (by
          intro t htl
          by_cases hw : ∃ (k : Nat) (u : Value), F σ k = some (some t, u)
          · obtain ⟨k, u, hku⟩ := hw
            obtain ⟨hkn, ok, hok', hdk⟩ := hFd σ k _ u hku
            by_cases hnk : k ∈ nw
            · have hke := q.newApart k hnk ok t (by simpa using hok') hdk i o hin ho htl
              obtain ⟨_, _, hlt, hwt⟩ := q.eats i hin k hke
              obtain ⟨e, he, hb, heq⟩ := waits_spec (hwt o ho)
              have hkl : listed.getD k true = true := by
                rw [getD_tf (by omega), ← heq]; exact hi3 e he hb
              by_cases hts : t < a.tmps.size
              · rw [hA.wrote k t u ⟨hkn, hkl⟩ hku hts, putNew_new l σ t k (eat i) _ hke (by simp [hok', hdk]) (fun j hj hdj => ?_) (by rw [hAi.size]; exact hts)]
                · rw [hF, if_pos hnk, hok'] at hku
                  simp at hku
                  rw [hku.2]
                · by_cases hjk : j = k
                  · exact hjk
                  · exfalso
                    cases hlj : l[j]? with
                    | none => rw [hlj] at hdj; cases hdj
                    | some oj =>
                      rw [hlj] at hdj
                      refine hFu σ j k t u ((σ j).getD undef) (Ne.symm hjk) hku ?_
                      rw [hF, if_pos (q.eats i hin j hj).2.1, hlj]
                      simp at hdj
                      simp [hdj]
              · rw [Array.getElem?_eq_none (show a'.tmps.size ≤ t from by rw [hA.size]; exact Nat.le_of_not_lt hts), Array.getElem?_eq_none (show (putNew l (eat i) σ (frames (D.take i) a)).tmps.size ≤ t from by rw [kp2, hAi.size]; exact Nat.le_of_not_lt hts)]
            rw [putNew_old l σ t (eat i) _ (fun j hj hdj => by
              cases hlj : l[j]? with
              | none => rw [hlj] at hdj; cases hdj
              | some oj =>
                rw [hlj] at hdj
                refine hFu σ j k t u ((σ j).getD undef) (fun e => hnk (e ▸ (q.eats i hin j hj).2.1)) hku ?_
                rw [hF, if_pos (q.eats i hin j hj).2.1, hlj]
                simp at hdj
                simp [hdj])]
            have hDu : D[k]? = some (some t, u) := by rw [hF, if_neg hnk] at hku; exact hku
            by_cases hts : t < a.tmps.size
            · have hki : k ≠ i := fun e => by
                subst e
                rw [hol] at hok'
                cases hok'
                exact g.own k o t hkn ho hdk htl
              rcases (g.pair k i ok o t hkn hin hki (by simpa using hok') ho hdk).2 with h1 | ⟨hlt, hwt⟩ | ⟨hlt, hwt⟩
              · exact absurd htl h1
              · obtain ⟨e, he, hb, heq⟩ := waits_spec hwt
                have hkl : listed.getD k true = true := by
                  rw [getD_tf (by omega), ← heq]; exact hi3 e he hb
                rw [hA.wrote k t u ⟨hkn, hkl⟩ hku hts, hAi.wrote k t u hlt hDu hts]
              · obtain ⟨e, he, hb, heq⟩ := waits_spec hwt
                have hkl : ¬ listed.getD k true = true := fun hkl => by
                  have := hc k ok (by omega) hkl hok' e he hb
                  rw [heq, ← getD_tf (by omega), hi2] at this
                  cases this
                rw [hA.kept t fun k' u' hk' hD' => ?_, hAi.kept t fun k' u' hk' hD' => ?_]
                · by_cases hkk : k' = k
                  · subst hkk; omega
                  · exact huniq k k' t u' u hkk hD' hDu
                · by_cases hkk : k' = k
                  · subst hkk; exact hkl hk'.2
                  · exact hFu σ k k' t u' u hkk hD' hku
            · rw [Array.getElem?_eq_none (show a'.tmps.size ≤ t from by rw [hA.size]; exact Nat.le_of_not_lt hts), Array.getElem?_eq_none (show (frames (D.take i) a).tmps.size ≤ t from by rw [hAi.size]; exact Nat.le_of_not_lt hts)]
          · rw [putNew_old l σ t (eat i) _ (fun j hj hdj => by
              cases hlj : l[j]? with
              | none => rw [hlj] at hdj; cases hdj
              | some oj =>
                rw [hlj] at hdj
                refine hw ⟨j, (σ j).getD undef, ?_⟩
                rw [hF, if_pos (q.eats i hin j hj).2.1, hlj]
                simp at hdj
                simp [hdj]), hA.kept t fun k v _ hkv => hw ⟨k, v, hkv⟩, hAi.kept t fun k v _ hkv => ?_]
            obtain ⟨_, hnk, _⟩ := hDd k t v hkv
            exact hw ⟨k, v, by rw [hF, if_neg hnk]; exact hkv⟩)
        have hset : ∀ k b, (listed.setIfInBounds i true).getD k b = if k = i then true else listed.getD k b := by
          intro k b
          by_cases hki : k = i
          · subst hki; simp [hs, hi1]
          · have : i ≠ k := Ne.symm hki
            simp [Array.getElem?_setIfInBounds_ne this, hki]
        have next : ∀ (σ' : Sig) (u : Value) w'', F σ' i = some (o.dst, u) → Agree (F σ') (fun k => k < n ∧ listed.getD k true = true) a a' → (∀ k ∈ nw, ((listed.setIfInBounds i true).getD k true = true → (σ' k).isSome = true) ∧ ((listed.setIfInBounds i true).getD k true = false → σ' k = none)) → S σ' w'' →
            wpAny P .any l.toArray Q fuel (listed.setIfInBounds i true) (a'.put o.dst u) w'' := by
          intro σ' u w'' hFi hA' hσ' hSw''
          refine ih _ _ w'' σ' (by simpa using hs) (by have := left_set (j := i) (by omega) hi2; omega) ?_ ?_ hσ' ?_ hSw''
          · intro j hj hjl
            rw [hset, if_neg (by omega)]
            exact ht j hj hjl
          · intro k ok hkl hkt hok' e he hb
            rw [hset]
            split
            · rfl
            · rw [hset] at hkt
              by_cases hki : k = i
              · subst hki
                rw [hol] at hok'
                cases hok'
                exact hi3 e he hb
              · rw [if_neg hki] at hkt
                exact hc k ok hkl hkt hok' e he hb
          · have := hA'.put (j := i) hFi (fun k t u' hki hD' e => hFu σ' i k t u' u hki hD' (by rw [hFi, e]))
            refine ⟨this.defers, this.size, fun k t u hk => this.wrote k t u ?_, fun t ht => this.kept t fun k u hk => ht k u ?_⟩
            · obtain ⟨h1, h2⟩ := hk
              rw [hset] at h2
              by_cases hki : k = i
              · exact .inr hki
              · rw [if_neg hki] at h2; exact .inl ⟨h1, h2⟩
            · rw [hset]
              rcases hk with ⟨h1, h2⟩ | rfl
              · exact ⟨h1, by split <;> first | rfl | exact h2⟩
              · exact ⟨hin, by simp⟩
        have hσset : i ∉ nw → ∀ k ∈ nw, ((listed.setIfInBounds i true).getD k true = true → (σ k).isSome = true) ∧ ((listed.setIfInBounds i true).getD k true = false → σ k = none) := fun hni k hk => by
          rw [hset, if_neg (fun (e : k = i) => hni (e ▸ hk))]
          exact hσ k hk
        unfold wpOp
        simp only [ho]
        have hno : i ∉ nw → putNew l (eat i) σ (frames (D.take i) a) = frames (D.take i) a := fun hni => by
          cases he : eat i with
          | nil => rfl
          | cons k r => exact absurd (q.eats i hin k (by rw [he]; simp)).1 hni
        rcases hcase with ⟨hni, hn1⟩ | ⟨hni, hw1, hc1⟩ | ⟨hni, hw1, rfl⟩
        · have hg := q.newPlain i hni o ho
          rw [show Region.wanted o (yielded l.toArray a'.tmps) = true by simp [Region.wanted, hg]]
          refine .inl (hn1.at rfl hsame.1 (by rw [kp2, hAi.size, hA.size]) hSw ((hσ i hni).2 hi2) (fun k hke => (hσ k (q.eats i hin k hke).2.1).1 (by
            obtain ⟨e, he, hb, heq⟩ := waits_spec ((q.eats i hin k hke).2.2.2 o ho)
            have := (q.eats i hin k hke).2.2.1
            rw [getD_tf (by omega), ← heq]; exact hi3 e he hb)) _ _ fun u w'' hSu => ?_)
          refine next (σ.upd i u) u w'' (by rw [hF, if_pos hni, hol]; simp [Sig.upd]) ?_ ?_ hSu
          · have hne : ∀ k, (k < n ∧ listed.getD k true = true) → F (σ.upd i u) k = F σ k := fun k hk => by
              have hki : k ≠ i := fun e => by subst e; rw [hi2] at hk; cases hk.2
              rw [hF, hF]
              simp [Sig.upd, hki]
            exact ⟨hA.defers, hA.size, fun k t u' hk hD' => hA.wrote k t u' hk (by rw [← hne k hk]; exact hD'), fun t ht => hA.kept t fun k u' hk => by rw [← hne k hk]; exact ht k u' hk⟩
          · intro k hk
            rw [hset]
            by_cases hki : k = i
            · simp [Sig.upd, hki]
            · rw [if_neg hki]
              simpa [Sig.upd, hki] using hσ k hk
        · rw [hno hni] at hsame
          rw [hsame.2, hw1]
          exact .inl (hc1.at hsame.1 (by rw [hAi.size, hA.size]) hSw _ _ fun w'' hSu => next σ v w'' (by rw [hF, if_neg hni]; exact hDk i o v hin hni hol hv) hA (hσset hni) hSu)
        · rw [hno hni] at hsame
          rw [hsame.2, hw1]
          exact next σ undef w' (by rw [hF, if_neg hni]; exact hDk i o undef hin hni hol hv) hA (hσset hni) hSw
  refine main _ listed0 a w Sig.no hs0 rfl (fun j _ hj => hl0 j hj) (fun k o hk hkt => by rw [hl0 k hk] at hkt; cases hkt) (fun k hk => ⟨fun hkt => ?_, fun _ => rfl⟩) ?_ hS
  · have := q.newLt k hk
    rw [hl0 k (by omega)] at hkt
    cases hkt
  · refine ⟨rfl, rfl, fun k t v hk => ?_, fun t _ => rfl⟩
    have := hl0 k (by omega)
    rw [this] at hk
    cases hk.2
theorem wp_region_new {id : Nat} {Q : Exit → Act → World → Prop} {a : Act} {w : World} {l : List Oper} (S : Sig → World → Prop) (n : Nat) (nw : List Nat) (eat : Nat → List Nat) (hm : P.follows .mixedOrders = true) (hok : calmOk l.toArray n [] = true) (hek : eatOk l.toArray n nw eat = true) (hS : S Sig.no w.drew)
    (h : calm P l eat l.toArray S nw (fun a' => ∀ σ w', (∀ k ∈ nw, (σ k).isSome = true) → S σ w' → wpList P l.toArray Q (l.drop n) (putNew l nw σ a') w') 0 (l.take n) a) : (Code.region id l.toArray true).wp P Q a w := by
  refine wp_region_any hm ?_
  have hl := left_none l.toArray.size
  have := wpAny_new S n nw eat hok hek hS h (Array.replicate l.toArray.size false) (by simp) (fun k hk => by simp [hk])
  rw [hl] at this
  exact this


theorem calm_value {R : Act → Prop} {a : Act} {o : Oper} {rest : List Oper} {i : Nat} {v : Value} (hi : i ∉ nw) (hw : Region.wanted o (yielded ops a.tmps) = true) (h1 : ∀ σ w, S σ w → (execOp a.eval o).run P w = .ok (.value v) w) (h : calm P l eat ops S nw R (i + 1) rest (a.put o.dst v)) : calm P l eat ops S nw R i (o :: rest) a :=
  calm_step v hi hw (fun σ w hS K Q hK => by unfold Oper.wp; rw [h1 σ w hS]; exact hK w hS) h
theorem calm_newv {R : Act → Prop} {a : Act} {o : Oper} {rest : List Oper} {i : Nat} (hi : i ∈ nw) (h1 : ∀ σ w, S σ w → σ i = none → (∀ k ∈ eat i, (σ k).isSome = true) → ∃ v w', (execOp (putNew l (eat i) σ a).eval o).run P w = .ok (.value v) w' ∧ S (σ.upd i v) w') (h : calm P l eat ops S nw R (i + 1) rest a) : calm P l eat ops S nw R i (o :: rest) a :=
  calm_new hi (fun σ w hS hn he K Q hK => by
    obtain ⟨v, w', hr, hs⟩ := h1 σ w hS hn he
    unfold Oper.wp
    rw [hr]
    exact hK v w' hs) h
/-- An append whose second operand is the row that it eats. -/
theorem calm_appv {R : Act → Prop} {a : Act} {o : Oper} {rest : List Oper} {i k d : Nat} {v1 : Value} {t ty : TypeId} (hi : i ∈ nw) (he : eat i = [k]) (hk : (l[k]?).bind (·.dst) = some d) (s : Operand) (hgt : o.type = ty)
    (ho : o.op = .call { callee := .builtin .append, args := #[s, .tmp d], argTypes := #[t, t] }) (hs : ∀ r, (a.put (some d) r).eval s = v1) (hd : ∀ r, (a.put (some d) r).eval (.tmp d) = r)
    (h1 : ∀ σ w, S σ w → σ i = none → (σ k).isSome = true → ∃ r v' w', σ k = some r ∧ (Builtin.append_ #[t, t] ty #[v1, r]).run P w = .ok v' w' ∧ S (σ.upd i v') w') (h : calm P l eat ops S nw R (i + 1) rest a) : calm P l eat ops S nw R i (o :: rest) a :=
  calm_newv hi (fun σ w hS hn hE => by
    obtain ⟨r, v', w', e1, e2, e3⟩ := h1 σ w hS hn (hE k (by rw [he]; simp))
    refine ⟨v', w', ?_, e3⟩
    rw [he]
    simp only [putNew, List.foldl_cons, List.foldl_nil, hk, e1, Option.getD_some]
    unfold execOp
    simp only [ho, resolve, invoke, builtin, Sem.run_bind, Sem.run_pure, Result.andThen_ok, List.map_toArray, List.map_cons, List.map_nil, hs, hd, hgt, e2]) h
end
end Go.Proofs.Ytpbodonmiepilaa.Tre
/- split: the walk of Plan. -/
namespace Go.Proofs.Ytpbodonmiepilaa
open Go.RowKit

theorem bestInfo : (Try.prog.info? 49).map (fun i => (i.zero, i.size, i.bytes)) = some (some (.agg #[.int .i64 0, .int .i64 0, .int .i64 0]), 3, 24) := by kernel_rfl
theorem way_cells {w : World} {b o c i n : Nat} {l : List Way} {x : Way} (h : Rd w 3 (.slice (some ⟨b, o, none⟩) n c) n (rows bcell l)) (hx : l[i]? = some x) :
    w.cell? ⟨b, o + i * 3, none⟩ = some (.int .i64 (x.1 : Int)) ∧ w.cell? ⟨b, o + i * 3 + 1, none⟩ = some (.int .i64 x.2.1) ∧ w.cell? ⟨b, o + i * 3 + 2, none⟩ = some (.int .i64 x.2.2) := by
  have h0 := h.cell ((rows_get bcell bcell_length hx 0 (by omega)).trans rfl)
  have h1 := h.cell ((rows_get bcell bcell_length hx 1 (by omega)).trans rfl)
  have h2 := h.cell ((rows_get bcell bcell_length hx 2 (by omega)).trans rfl)
  exact ⟨h0, h1, h2⟩
/-- The state amid the two appends: a row, then the first append, which eats it; the second's row whenever. -/
def TwoS (w0 : World) (v1 : Value) (m : Nat) (X : List Int) (x y : Int) (ps : List Piece) (σ : Sig) (w : World) : Prop :=
  match σ 5, σ 6 with
  | none, none => Own w0 w (newR (.cells #[.int .i64 y] 3) 1 (σ 13) ++ (slc 3 1 v1 m (nums X) :: ps))
  | some r, none => Own w0 w (newR (.cells #[.int .i64 y] 3) 1 (σ 13) ++ (newR (.cells #[.int .i64 x] 3) 1 (some r) ++ (slc 3 1 v1 m (nums X) :: ps)))
  | some _, some v => Own w0 w (newR (.cells #[.int .i64 y] 3) 1 (σ 13) ++ (slc 3 1 v (m + 1) (nums (X ++ [x])) :: ps))
  | none, some _ => False
def eat6 (i : Nat) : List Nat := if i = 6 then [5] else []
theorem nums_snoc (X : List Int) (x : Int) : nums X ++ [.int .i64 x] = nums (X ++ [x]) := by simp [nums]
section
variable {w0 w : World} {v1 : Value} {m : Nat} {X : List Int} {x y : Int} {ps : List Piece} {σ : Sig}
theorem two_start (h : Own w0 w (slc 3 1 v1 m (nums X) :: ps)) : TwoS w0 v1 m X x y ps Sig.no w := h
theorem Own.to_row {v : Value} {o : Obj} {qs : List Piece} (h : Own w0 (w.alloc o) (blk w.heap.size o :: qs)) (hv : v = .slice (some ⟨w.heap.size, 0, none⟩) 1 1) : Own w0 (w.alloc o) (newR o 1 (some v) ++ qs) :=
  h.imp fun x hx => ⟨_, hv, hx⟩
theorem two_row (h : TwoS w0 v1 m X x y ps σ w) (h5 : σ 5 = none) : TwoS w0 v1 m X x y ps (σ.upd 5 (.slice (some ⟨w.heap.size, 0, none⟩) 1 1)) (w.alloc (.cells #[.int .i64 x] 3)) := by
  unfold TwoS at *
  have e6 : (σ.upd 5 (.slice (some ⟨w.heap.size, 0, none⟩) 1 1)) 6 = σ 6 := by simp [Sig.upd]
  have e13 : (σ.upd 5 (.slice (some ⟨w.heap.size, 0, none⟩) 1 1)) 13 = σ 13 := by simp [Sig.upd]
  have e5 : (σ.upd 5 (.slice (some ⟨w.heap.size, 0, none⟩) 1 1)) 5 = some (.slice (some ⟨w.heap.size, 0, none⟩) 1 1) := by simp [Sig.upd]
  rw [e6, e13, e5]
  rw [h5] at h
  cases h6 : σ 6 with
  | none =>
    rw [h6] at h
    exact ((h.alloc _).imp (q := fun z => ∃ g, Value.slice (some ⟨w.heap.size, 0, none⟩) 1 1 = .slice (some ⟨g, 0, none⟩) 1 1 ∧ z = [(g, .cells #[.int .i64 x] 3)]) fun z hz => ⟨_, rfl, hz⟩).perm List.perm_middle.symm
  | some v => rw [h6] at h; exact h.elim
theorem two_rowB (h : TwoS w0 v1 m X x y ps σ w) (h13 : σ 13 = none) : TwoS w0 v1 m X x y ps (σ.upd 13 (.slice (some ⟨w.heap.size, 0, none⟩) 1 1)) (w.alloc (.cells #[.int .i64 y] 3)) := by
  unfold TwoS at *
  have e6 : (σ.upd 13 (.slice (some ⟨w.heap.size, 0, none⟩) 1 1)) 6 = σ 6 := by simp [Sig.upd]
  have e5 : (σ.upd 13 (.slice (some ⟨w.heap.size, 0, none⟩) 1 1)) 5 = σ 5 := by simp [Sig.upd]
  have e13 : (σ.upd 13 (.slice (some ⟨w.heap.size, 0, none⟩) 1 1)) 13 = some (.slice (some ⟨w.heap.size, 0, none⟩) 1 1) := by simp [Sig.upd]
  rw [e6, e13, e5]
  rw [h13] at h
  cases h5 : σ 5 with
  | none =>
    cases h6 : σ 6 with
    | none => rw [h5, h6] at h; exact Own.to_row (h.alloc _) rfl
    | some v => rw [h5, h6] at h; exact h.elim
  | some r =>
    cases h6 : σ 6 with
    | none => rw [h5, h6] at h; exact Own.to_row (h.alloc _) rfl
    | some v => rw [h5, h6] at h; exact Own.to_row (h.alloc _) rfl
theorem two_app (h : TwoS w0 v1 m X x y ps σ w) (h6 : σ 6 = none) (h5 : (σ 5).isSome = true) (hm : m ≤ 1000000) :
    ∃ r v' w', σ 5 = some r ∧ (Builtin.append_ #[22, 22] 22 #[v1, r]).run Try.prog w = .ok v' w' ∧ TwoS w0 v1 m X x y ps (σ.upd 6 v') w' := by
  unfold TwoS at *
  rw [h6] at h
  obtain ⟨r, hr⟩ := Option.isSome_iff_exists.1 h5
  rw [hr] at h
  have h2 : Own w0 w (newR (.cells #[.int .i64 x] 3) 1 (some r) ++ (newR (.cells #[.int .i64 y] 3) 1 (σ 13) ++ (slc 3 1 v1 m (nums X) :: ps))) := h.perm List.perm_middle
  obtain ⟨g, rfl, h3⟩ := h2.newr
  have h4 : Own w0 w (slc 3 1 (.slice (some ⟨g, 0, none⟩) 1 1) 1 [.int .i64 x] :: (newR (.cells #[.int .i64 y] 3) 1 (σ 13) ++ (slc 3 1 v1 m (nums X) :: ps))) := h3.slc_mk rfl (by omega) (by simp [maxLen]) rfl rfl
  have h7 : Own w0 w (slc 3 1 v1 m (nums X) :: (newR (.cells #[.int .i64 y] 3) 1 (σ 13) ++ ps)) := h3.drop.perm List.perm_middle
  obtain ⟨i, hi, hz, hsize, hby⟩ := info_parts intInfo
  obtain ⟨v', w', hrun, h8⟩ := run_append_sep (P := Try.prog) (ty := 22) h7 Try.underlying22 hi hz hsize hby rfl (by decide) h4.rd (by simp [Value.oneCell']) (by simp [maxLen]; omega) (by omega)
  refine ⟨_, v', w', hr, hrun, ?_⟩
  have e6 : (σ.upd 6 v') 6 = some v' := by simp [Sig.upd]
  have e5 : (σ.upd 6 v') 5 = σ 5 := by simp [Sig.upd]
  have e13 : (σ.upd 6 v') 13 = σ 13 := by simp [Sig.upd]
  rw [e6, e13, e5, hr]
  rw [nums_snoc] at h8
  exact h8.perm List.perm_middle.symm
theorem two_end (h : TwoS w0 v1 m X x y ps σ w) (h6 : (σ 6).isSome = true) (h13 : (σ 13).isSome = true) :
    ∃ v g, σ 6 = some v ∧ σ 13 = some (.slice (some ⟨g, 0, none⟩) 1 1) ∧ Own w0 w (slc 3 1 (.slice (some ⟨g, 0, none⟩) 1 1) 1 [.int .i64 y] :: slc 3 1 v (m + 1) (nums (X ++ [x])) :: ps) := by
  unfold TwoS at *
  obtain ⟨v, hv⟩ := Option.isSome_iff_exists.1 h6
  obtain ⟨r, hr⟩ := Option.isSome_iff_exists.1 h13
  cases h5 : σ 5 with
  | none => rw [h5, hv] at h; exact h.elim
  | some q =>
    rw [h5, hv, hr] at h
    obtain ⟨g, rfl, h3⟩ := h.newr
    exact ⟨v, g, hv, hr, h3.slc_mk rfl (by omega) (by simp [maxLen]) rfl rfl⟩
theorem two_rest (h : TwoS w0 v1 m X x y ps σ w) : Own w0 w ps := by
  unfold TwoS at h
  cases h5 : σ 5 with
  | none =>
    cases h6 : σ 6 with
    | none => rw [h5, h6] at h; exact h.skip.drop
    | some v => rw [h5, h6] at h; exact h.elim
  | some q =>
    cases h6 : σ 6 with
    | none => rw [h5, h6] at h; exact h.skip.skip.drop
    | some v => rw [h5, h6] at h; exact h.skip.drop
end
end Go.Proofs.Ytpbodonmiepilaa
/- split: the walk of Plan, continued. -/
namespace Go.Proofs.Ytpbodonmiepilaa
open Go.RowKit

theorem nats_get {C : List Nat} {i : Nat} : (C.map Int.ofNat).getD i 0 = ((C.getD i 0 : Nat) : Int) := by
  simp only [List.getD, List.getElem?_map]
  cases C[i]? <;> rfl
set_option maxRecDepth 100000 in
set_option maxHeartbeats 6400000 in
theorem plan_any {w : World} {tv : Value} {T : List Tok} (ht : Rd w 3 tv T.length (rows tcell T)) (hok : ∀ t ∈ T, TokOk t) (hT : T.length ≤ 3000) :
    Calls Try.prog 11 #[tv] w (Ret fun r w' => ∃ C, CutsIs T.length C ∧ ∃ a k : Value, r = .tuple #[a, k] ∧ Own w w' [slc 3 1 a (planI T C).length (nums (atT T C)), slc 3 1 k (planI T C).length (nums (ksT T C))]) := by
  obtain ⟨ta, tc, rfl, htc1, htc2⟩ := ht.shape
  have KW := Lib.hid (fun w1 (ps : List Piece) bl sf j fr tt h1 h2 h3 (H : Own w w1 (blk bl (.cells #[.slice ta T.length tc] 26) :: ps)) => way_any sf j fr tt ht hok hT h1 h2 h3 H)
  have KB := Lib.hid (fun C W tt j => bestT_bd hok hT C W tt j)
  have KC := Lib.hid (fun (w1 w2 : World) (v : Value) h => cutsR_is (N := T.length) (w := w1) (w' := w2) (v := v) (by omega) h)
  have KE := Lib.hid (fun a b => cst_bd (a := a) (b := b) hok hT)
  obtain ⟨N, hN⟩ : ∃ N, Hid (T.length = N) := ⟨_, rfl⟩
  rw [hN.out] at KW KC hT htc1 ⊢
  clear ht hok
  have H0 := (Own.start w).alloc (.cells #[.slice ta N tc] 26)
  go_enter Try.func11, Try.ntmps11
  go_upto_region 1 with (fail)
  generalize w.alloc _ = w1 at *
  generalize w.heap.size = bl at *
  have c0 := H0.cells
  go_wp2_with fail
  refine (cuts_any (N : Int) (by omega) _).mono ?_
  rintro e w2 ⟨cv, rfl, J⟩
  obtain ⟨C, hC, J⟩ := KC.out _ _ _ J
  have H := H0.join J
  clear H0 J c0 KC
  obtain ⟨hn0, hn12, hlast, hrise, hle⟩ := hC.facts
  obtain ⟨n, hn⟩ : ∃ n, Hid (C.length = n) := ⟨_, rfl⟩
  rw [hn.out] at hn0 hn12 hrise H
  replace hrise := Lib.hid hrise
  replace hle := Lib.hid hle
  clear hlast
  replace H : Own w w2 [slc 3 1 cv n (nums (C.map Int.ofNat)), blk bl (.cells #[.slice ta N tc] 26)] := H
  have hcl : (nums (C.map Int.ofNat)).length = n := by simp [nums, hn.out]
  obtain ⟨cg, cc, rfl, hcc1, hcc2, -, -, -, -⟩ := H.at (by rw [hcl]; exact hn0)
  obtain ⟨Cz, hCz⟩ : ∃ Cz, Hid (nums (C.map Int.ofNat) = Cz) := ⟨_, rfl⟩
  rw [hCz.out] at H hcl
  have HCELL : Hid (∀ w' (qs : List Piece), Own w w' (slc 3 1 (.slice (some ⟨cg, 0, none⟩) n cc) n Cz :: qs) → ∀ i, i < n → w'.cell? ⟨cg, i, none⟩ = some (.int .i64 (C.getD i 0 : Nat))) := Lib.hid fun w' qs h i hi => by
    rw [← hCz.out] at h
    obtain ⟨_, _, e1, h1⟩ := rd_at h.rd (Own.start w') hi
    cases e1
    rw [Nat.zero_add, nats_get] at h1
    exact h1
  have H1 := H.nil 49 3
  clear H
  go_wp2_with fail
  go_loopw [5, 22] (fun v5 v22 wx => ∃ i : Nat, v22 = .int .i64 i ∧ i ≤ n ∧ Own w wx [slc 49 3 v5 i (rows bcell (waysT T C i)), slc 3 1 (.slice (some ⟨cg, 0, none⟩) n cc) n Cz, blk bl (.cells #[.slice ta N tc] 26)]) (fun _ v22 _ => n - (intOf v22).toNat)
  case atStart => exact ⟨0, rfl, by omega, H1⟩
  case round =>
    clear H1
    obtain ⟨i, rfl, hi, H⟩ := hrel
    obtain ⟨wa, wc, rfl, hwc1, hwc2⟩ := H.rd.shape
    by_cases hin : i < n
    · have hinI : (i : Int) < (n : Int) := by omega
      have c1 := HCELL.out _ _ H.swap i hin
      have hleI := hle.out i
      have hriI := Lib.hid (fun j (h : j < i) => hrise.out j i h (by omega))
      generalize hW : waysT T C i = W at *
      obtain ⟨tt, htt⟩ : ∃ tt, Hid (C.getD i 0 = tt) := ⟨_, rfl⟩
      rw [htt.out] at c1 hleI hriI
      have hWl : W.length = i := by rw [← hW]; exact waysT_length T C i
      have hWg : Hid (∀ j, j < i → (W.getD j (0, 0, 0)).1 ≤ 159000) := Lib.hid fun j h => by rw [← hW, waysT_get T C i j h]; exact KB.out C _ _ j
      have hnext : Hid (waysT T C (i + 1) = W ++ [bestT T C W tt i]) := Lib.hid (by rw [waysT, hW, htt.out])
      replace hWl := Lib.hid hWl
      have kw0 := fun w1 qs H => KW.out w1 qs bl 0 (-1) 0 tt (by omega) (by omega) hleI H
      have hb0 : Hid (∃ b k, bestT T C W tt 0 = (b, -1, k) ∧ b = cstF (segT T 0 tt) ∧ k = kdF (segT T 0 tt) ∧ b ≤ 159000) := Lib.hid ⟨_, _, by simp [bestT, wayT], rfl, rfl, KE.out 0 tt⟩
      obtain ⟨b0, k0, e0, eb, ek, hb0l⟩ := hb0.out
      rw [← eb, ← ek] at kw0
      replace kw0 := Lib.hid kw0
      replace e0 := Lib.hid e0
      clear hb0 eb ek hW
      go_upto_region 7 with (fail)
      clear c1
      go_wp2_with fail
      refine (kw0.out _ _ (H.front 2 rfl)).mono ?_
      rintro e w3 ⟨_, rfl, rfl, H3⟩
      clear H kw0
      have hz0 : ((0 : Nat) : Int) + (b0 : Int) = (b0 : Int) := by omega
      rw [hz0]
      have H : Own w (w3.alloc (.cells #[.int .i64 (b0 : Int), .int .i64 (-1), .int .i64 k0] 49)) [blk w3.heap.size (.cells #[.int .i64 (b0 : Int), .int .i64 (-1), .int .i64 k0] 49), blk bl (.cells #[.slice ta N tc] 26), slc 49 3 (.slice wa i wc) i (rows bcell W), slc 3 1 (.slice (some ⟨cg, 0, none⟩) n cc) n Cz] := H3.alloc _
      clear H3
      go_wp2_with fail
      generalize hw4 : w3.alloc _ = w4 at *
      generalize w3.heap.size = gw at *
      clear hw4
      go_loopw [34] (fun v34 wx => ∃ (j : Nat) (x : Way), v34 = .int .i64 j ∧ j ≤ i ∧ x.1 ≤ 159000 ∧ Hid (bestT T C W tt j = x) ∧ Own w wx [blk gw (.cells #[.int .i64 (x.1 : Int), .int .i64 x.2.1, .int .i64 x.2.2] 49), blk bl (.cells #[.slice ta N tc] 26), slc 49 3 (.slice wa i wc) i (rows bcell W), slc 3 1 (.slice (some ⟨cg, 0, none⟩) n cc) n Cz]) (fun v34 _ => i - (intOf v34).toNat)
      case atStart => exact ⟨0, (b0, -1, k0), rfl, by omega, hb0l, e0, H⟩
      case round =>
        clear H
        obtain ⟨j, ⟨xb, xf, xk⟩, rfl, hj, hxl, hx, H⟩ := hrel
        by_cases hji : j < i
        · have hjiI : (j : Int) < (i : Int) := by omega
          have c1 := HCELL.out _ _ (H.front 3 rfl) j (by omega)
          have hr2 := hriI.out j hji
          obtain ⟨fr, hfr⟩ : ∃ fr, Hid (C.getD j 0 = fr) := ⟨_, rfl⟩
          rw [hfr.out] at c1 hr2
          obtain ⟨wg, wc', e1, -, -, -, -, -, -⟩ := (H.front 2 rfl).at (by rw [rows_length bcell bcell_length, hWl.out]; omega)
          cases e1
          have hWj : W[j]? = some (W.getD j (0, 0, 0)) := by rw [List.getD, List.getElem?_eq_getElem (by rw [hWl.out]; exact hji)]; rfl
          obtain ⟨c2, c3, c4⟩ := way_cells (H.front 2 rfl).rd hWj
          have hsfl := hWg.out j hji
          obtain ⟨sf, hsf⟩ : ∃ sf, Hid ((W.getD j (0, 0, 0)).1 = sf) := ⟨_, rfl⟩
          rw [hsf.out] at c2 hsfl
          rw [Nat.zero_add] at c2
          clear c3 c4 hWj
          have kw := fun w1 qs H => KW.out w1 qs bl sf j fr tt (by omega) (by omega) hleI H
          obtain ⟨y, hy⟩ : ∃ y, Hid (wayT T sf j fr tt = y) := ⟨_, rfl⟩
          have hy1 : y.1 = sf + cstF (segT T fr tt) := by rw [← hy.out]; rfl
          have hy2 : y.2.1 = j := by rw [← hy.out]; rfl
          have hy3 : y.2.2 = kdF (segT T fr tt) := by rw [← hy.out]; rfl
          have hyl : y.1 ≤ 318000 := by have := KE.out fr tt; omega
          obtain ⟨yb, yf, yk⟩ := y
          simp only at hy1 hy2 hy3 hyl
          have hy1' : (sf : Int) + (cstF (segT T fr tt) : Int) = (yb : Int) := by omega
          rw [hy1', ← hy3] at kw
          replace kw := Lib.hid kw
          clear hy1' hy1 hy3
          subst hy2
          have hstep : Hid (bestT T C W tt (j + 1) = if yb < xb then (yb, (j : Int), yk) else (xb, xf, xk)) := Lib.hid (by
            rw [bestT, hsf.out, hfr.out, hy.out, hx.out])
          clear hx hy
          go_upto_region 11 with (fail)
          clear c1
          have H2 := H.front 1 rfl
          clear H
          go_wp2_with fail
          refine (kw.out _ _ H2).mono ?_
          rintro e w6 ⟨_, rfl, rfl, H⟩
          clear H2 kw c2
          have H2 : Own w (w6.alloc (.cells #[.int .i64 (yb : Int), .int .i64 (j : Int), .int .i64 yk] 49)) [blk w6.heap.size (.cells #[.int .i64 (yb : Int), .int .i64 (j : Int), .int .i64 yk] 49), blk gw (.cells #[.int .i64 (xb : Int), .int .i64 xf, .int .i64 xk] 49), blk bl (.cells #[.slice ta N tc] 26), slc 49 3 (.slice (some ⟨wg, 0, none⟩) i wc) i (rows bcell W), slc 3 1 (.slice (some ⟨cg, 0, none⟩) n cc) n Cz] := (H.swap).alloc _
          clear H
          go_upto_region 12 with (fail)
          generalize hw7 : w6.alloc _ = w7 at *
          generalize w6.heap.size = gx at *
          clear hw7
          have c2 := H2.cells
          have c3 := H2.swap.cells
          by_cases hlt : (yb : Int) < (xb : Int)
          · have hlN : yb < xb := by omega
            rw [if_pos hlN] at hstep
            replace hstep := Lib.hid hstep.out
            clear hlN
            have HP := H2.swap
            clear H2
            go_wp2_with (refine wpList_store_agg (vs := [.int .i64 (yb : Int), .int .i64 (j : Int), .int .i64 yk]) rfl _ _ rfl rfl HP rfl (by kernel_rfl) (by simp) (by simp [Value.oneCell']) rfl ?_; clear HP c2 c3; intro w8 H)
            go_roundw
            case rel => exact ⟨j + 1, (yb, (j : Int), yk), by go_num, by omega, by simp only; omega, hstep, ((H.front 1 rfl).drop)⟩
            case measure => simp [intOf]; omega
          · have hlN : ¬ yb < xb := by omega
            rw [if_neg hlN] at hstep
            replace hstep := Lib.hid hstep.out
            clear hlN
            go_wp2_with fail
            go_roundw
            case rel => exact ⟨j + 1, (xb, xf, xk), by go_num, by omega, hxl, hstep, H2.drop⟩
            case measure => simp [intOf]; omega
        · obtain rfl : j = i := by omega
          have hjiI : ¬ (j : Int) < (j : Int) := by omega
          have hx2 : Hid (waysT T C (j + 1) = W ++ [(xb, xf, xk)]) := Lib.hid (by rw [hnext.out, hx.out])
          clear hx hnext
          have H2 : Own w _ [slc 49 3 (.slice wa j wc) j (rows bcell W), slc 3 1 (.slice (some ⟨cg, 0, none⟩) n cc) n Cz, blk bl (.cells #[.slice ta N tc] 26)] := ((((H.front 3 rfl).front 3 rfl).front 2 rfl).drop)
          have c0 := H.cells
          go_wp2_with (at_builtin; refine wpList_append_one rfl _ _ rfl Try.underlying47 bestInfo rfl (by decide) rfl H2 (news := [.int .i64 (xb : Int), .int .i64 xf, .int .i64 xk]) rfl rfl rfl (by simp [Value.oneCell']) (by omega) (by omega) ?_; clear H H2 c0; intro v' w9 H; obtain ⟨a', c', rfl, h1', h2'⟩ := H.rd.shape)
          go_roundw
          case rel => exact ⟨j + 1, by go_num, by omega, by rw [hx2.out, rows_append, rows_one]; exact H⟩
          case measure => simp [intOf]; omega
    · obtain rfl : i = n := by omega
      have hinI : ¬ (i : Int) < (i : Int) := by omega
      obtain ⟨W, hW⟩ : ∃ W, Hid (waysT T C i = W) := ⟨_, rfl⟩
      rw [hW.out] at H
      have hWl : Hid (W.length = i) := Lib.hid (by rw [← hW.out]; exact waysT_length T C i)
      obtain ⟨wg, wc', e1, -, -, -, -, -, -⟩ := H.at (by rw [rows_length bcell bcell_length, hWl.out]; omega)
      cases e1
      have WCELL : Hid (∀ w' (qs : List Piece), Own w w' (slc 49 3 (.slice (some ⟨wg, 0, none⟩) i wc) i (rows bcell W) :: qs) → ∀ j, j < i → w'.cell? ⟨wg, j * 3 + 1, none⟩ = some (.int .i64 (W.getD j (0, 0, 0)).2.1) ∧ w'.cell? ⟨wg, j * 3 + 2, none⟩ = some (.int .i64 (W.getD j (0, 0, 0)).2.2)) := Lib.hid fun w' qs h j hj => by
        have hWj : W[j]? = some (W.getD j (0, 0, 0)) := by rw [List.getD, List.getElem?_eq_getElem (by rw [hWl.out]; exact hj)]; rfl
        obtain ⟨-, c3, c4⟩ := way_cells h.rd hWj
        rw [Nat.zero_add] at c3 c4
        exact ⟨c3, c4⟩
      have hWF : Hid (∀ j, j < i → -1 ≤ (W.getD j (0, 0, 0)).2.1 ∧ (W.getD j (0, 0, 0)).2.1 < j) := Lib.hid fun j hj => by
        rw [← hW.out, waysT_get T C i j hj]
        have := bestT_from T C (waysT T C j) (C.getD j 0) j
        exact ⟨this.1, this.2.1⟩
      obtain ⟨PL, hPL⟩ : ∃ PL, Hid (planI T C = PL) := ⟨_, rfl⟩
      have hst : Hid (([] : List Nat) ++ backT W i ((i : Int) - 1) = PL) := Lib.hid (by rw [← hPL.out, planI, hn.out, hW.out]; rfl)
      have hAT : Hid (atT T C = (PL.map fun i => ((C.getD i 0 : Nat) : Int)).reverse) := Lib.hid (by rw [atT, hPL.out])
      have hKS : Hid (ksT T C = (PL.map fun i => (W.getD i (0, 0, 0)).2.2).reverse) := Lib.hid (by rw [ksT, hPL.out, hn.out, hW.out])
      have H1 := (H.nil 3 1).nil 3 1
      clear H hW KW KB KE hle
      have hw1 : IntKind.i64.wrap ((i : Int) - 1) = (i : Int) - 1 := IntWalk.i64_in _ ⟨by omega, by omega⟩
      go_wp2_with fail
      go_loopw [13, 14, 15] (fun v13 v14 v15 wx => ∃ (x : Int) (L : List Nat) (f : Nat), v15 = .int .i64 x ∧ -1 ≤ x ∧ x < i ∧ x < f ∧ (L.length : Int) + x + 1 ≤ i ∧ Hid (L ++ backT W f x = PL) ∧ Own w wx [slc 3 1 v13 L.length (nums (L.map fun i => ((C.getD i 0 : Nat) : Int))), slc 3 1 v14 L.length (nums (L.map fun i => (W.getD i (0, 0, 0)).2.2)), slc 49 3 (.slice (some ⟨wg, 0, none⟩) i wc) i (rows bcell W), slc 3 1 (.slice (some ⟨cg, 0, none⟩) i cc) i Cz, blk bl (.cells #[.slice ta N tc] 26)]) (fun _ _ v15 _ => (intOf v15 + 1).toNat)
      case atStart => exact ⟨(i : Int) - 1, [], i, rfl, by omega, by omega, by omega, by simp, hst, H1⟩
      case round =>
        clear H1 hst hw1
        obtain ⟨x, L, f, rfl, hx1, hx2, hxf, hLx, hst, H⟩ := hrel
        by_cases hx0 : 0 ≤ x
        · obtain ⟨j, rfl⟩ : ∃ j : Nat, x = j := ⟨x.toNat, by omega⟩
          obtain ⟨f, rfl⟩ : ∃ f', f = f' + 1 := ⟨f - 1, by omega⟩
          have hj : j < i := by omega
          have hst2 := hst.out
          rw [backT_step] at hst2
          obtain ⟨hF1, hF2⟩ := hWF.out j hj
          have CCL := Lib.hid (fun w' qs h => HCELL.out w' qs h j hj)
          have WCL := Lib.hid (fun w' qs h => WCELL.out w' qs h j hj)
          obtain ⟨x, hx⟩ : ∃ x, Hid (((C.getD j 0 : Nat) : Int) = x) := ⟨_, rfl⟩
          obtain ⟨y, hy⟩ : ∃ y, Hid ((W.getD j (0, 0, 0)).2.2 = y) := ⟨_, rfl⟩
          obtain ⟨z, hz⟩ : ∃ z, Hid ((W.getD j (0, 0, 0)).2.1 = z) := ⟨_, rfl⟩
          rw [hz.out] at hst2 hF1 hF2
          rw [hx.out] at CCL
          rw [hy.out, hz.out] at WCL
          have hst3 : Hid ((L ++ [j]) ++ backT W f z = PL) := Lib.hid (by rw [← hst2]; simp)
          have hLL : Hid (L.length + 1 = (L ++ [j]).length) := Lib.hid (by simp)
          have hX : Hid (nums ((L ++ [j]).map fun i => ((C.getD i 0 : Nat) : Int)) = nums ((L.map fun i => ((C.getD i 0 : Nat) : Int)) ++ [x])) := Lib.hid (by rw [← hx.out]; simp)
          have hY : Hid (nums ((L ++ [j]).map fun i => (W.getD i (0, 0, 0)).2.2) = nums (L.map fun i => (W.getD i (0, 0, 0)).2.2) ++ [.int .i64 y]) := Lib.hid (by rw [← hy.out, nums_snoc]; simp)
          clear hst hst2 hx hy hz
          obtain ⟨m, hm⟩ : ∃ m, Hid (L.length = m) := ⟨_, rfl⟩
          rw [hm.out] at H hLx hLL
          have hmn : m ≤ 12 := by omega
          obtain ⟨a1, q1, rfl, -, -⟩ := H.rd.shape
          obtain ⟨a2, q2, rfl, -, -⟩ := (H.front 1 rfl).rd.shape
          have hji : (j : Int) < (i : Int) := by omega
          have hj0 : (0 : Int) ≤ (j : Int) := by omega
          go_upto_region 21 with (fail)
          refine Tre.wp_region_new (TwoS w (.slice a1 m q1) m (L.map fun i => ((C.getD i 0 : Nat) : Int)) x y [slc 3 1 (.slice a2 m q2) m (nums (L.map fun i => (W.getD i (0, 0, 0)).2.2)), slc 49 3 (.slice (some ⟨wg, 0, none⟩) i wc) i (rows bcell W), slc 3 1 (.slice (some ⟨cg, 0, none⟩) i cc) i Cz, blk bl (.cells #[.slice ta N tc] 26)]) 14 [5, 6, 13] eat6 (by kernel_rfl) (by kernel_rfl) (by kernel_rfl) (two_start H.drew) ?_
          simp only [List.take_succ_cons, List.take_zero, List.drop_succ_cons, List.drop_zero]
          repeat
            first
            | (refine Tre.calm_value (v := ?_) (by decide) rfl (fun σ w1 hS => ?_) ?_
               rotate_left
               · have h0 := two_rest hS; have d0 := CCL.out _ _ (h0.front 2 rfl); obtain ⟨d1, d2⟩ := WCL.out _ _ (h0.front 1 rfl)
                 first | (go_simp; rfl) | rfl
               simp only [Act.put, List.setIfInBounds_toArray, List.set_cons_zero, List.set_cons_succ])
            | (refine Tre.calm_skip (by decide) rfl ?_
               simp only [Act.put, List.setIfInBounds_toArray, List.set_cons_zero, List.set_cons_succ])
          refine Tre.calm_newv (by decide) (fun σ w1 hS hn hd => ⟨_, _, ?_, two_row hS hn⟩) ?_
          · rw [show eat6 5 = [] from rfl]
            simp only [putNew, List.foldl_nil]
            go_simp
          refine Tre.calm_appv (k := 5) (d := 76) (v1 := .slice a1 m q1) (t := 22) (ty := 22) (by decide) rfl rfl (.tmp 71) rfl rfl (fun r => rfl) (fun r => rfl) (fun σ w1 hS hn hd => two_app hS hn hd (by omega)) ?_
          repeat
            first
            | (refine Tre.calm_value (v := ?_) (by decide) rfl (fun σ w1 hS => ?_) ?_
               rotate_left
               · have h0 := two_rest hS; have d0 := CCL.out _ _ (h0.front 2 rfl); obtain ⟨d1, d2⟩ := WCL.out _ _ (h0.front 1 rfl)
                 first | (go_simp; rfl) | rfl
               simp only [Act.put, List.setIfInBounds_toArray, List.set_cons_zero, List.set_cons_succ])
            | (refine Tre.calm_skip (by decide) rfl ?_
               simp only [Act.put, List.setIfInBounds_toArray, List.set_cons_zero, List.set_cons_succ])
          refine Tre.calm_newv (by decide) (fun σ w1 hS hn hd => ⟨_, _, ?_, two_rowB hS hn⟩) ?_
          · rw [show eat6 13 = [] from rfl]
            simp only [putNew, List.foldl_nil]
            go_simp
          refine Tre.calm_nil ?_
          intro σ2 wd2 hal HD
          obtain ⟨u6, u13, e6, e13, HE⟩ := two_end HD (hal 6 (by decide)) (hal 13 (by decide))
          simp only [putNew, List.foldl_nil, List.foldl_cons, e6, e13]
          clear H HD hal e6 e13
          have HR := HE.rd
          have HV := HE.drop.swap
          clear HE
          have d1 := (WCL.out _ _ (HV.front 2 rfl)).1
          have hz3 : -1 ≤ z := hF1
          go_wp2_with (at_builtin; refine wpList_append_sep rfl _ _ rfl Try.underlying22 intInfo rfl (by decide) rfl HV (m := 1) (news := [.int .i64 y]) HR (by simp [Value.oneCell']) (by omega) (by omega) ?_; clear HV HR d1; intro v' w9 H; obtain ⟨a', c', rfl, h1', h2'⟩ := H.rd.shape; have d1 := (WCL.out _ _ (H.front 2 rfl)).1; obtain ⟨a5, c5, rfl, -, -⟩ := (H.front 1 rfl).rd.shape)
          rw [← hX.out, ← hY.out, hLL.out] at H
          go_roundw
          case rel => exact ⟨z, L ++ [j], f, rfl, by omega, by omega, by omega, by rw [← hLL.out]; push_cast; omega, hst3, by rw [← hLL.out] at H ⊢; exact H.swap⟩
          case measure => simp [intOf]; omega
        · have hx0' : x < 0 := by omega
          have hst2 := hst.out
          rw [backT_neg W f hx0', List.append_nil] at hst2
          subst hst2
          clear hst
          have hlen : (L.map fun i => ((C.getD i 0 : Nat) : Int)).length = L.length := by simp
          have hlen2 : (L.map fun i => (W.getD i (0, 0, 0)).2.2).length = L.length := by simp
          obtain ⟨a1, q1, rfl, -, -⟩ := H.rd.shape
          obtain ⟨a2, q2, rfl, -, -⟩ := (H.front 1 rfl).rd.shape
          have kr1 := fun w1 qs => reverse_any (w0 := w) (w := w1) (ps := qs) (v := .slice a1 L.length q1) hlen (by omega)
          have kr2 := fun w1 qs => reverse_any (w0 := w) (w := w1) (ps := qs) (v := .slice a2 L.length q2) hlen2 (by omega)
          rw [← hAT.out] at kr1
          rw [← hKS.out] at kr2
          replace kr1 := Lib.hid kr1
          replace kr2 := Lib.hid kr2
          obtain ⟨m, hm⟩ : ∃ m, Hid (L.length = m) := ⟨_, rfl⟩
          rw [hm.out] at H kr1 kr2 ⊢
          replace HCs := Lib.hid hC
          clear hcl HCELL WCELL hWF hrise hAT hKS hlen hlen2 hx1 hx2 hxf hLx hx0
          generalize nums (L.map fun i => ((C.getD i 0 : Nat) : Int)) = X1 at *
          generalize nums (L.map fun i => (W.getD i (0, 0, 0)).2.2) = X2 at *
          go_wp2_with fail
          refine (kr1.out _ _ H).mono ?_
          rintro e w9 ⟨_, rfl, H9⟩
          clear H kr1
          go_wp2_with fail
          refine (kr2.out _ _ H9.swap).mono ?_
          rintro e w8 ⟨_, rfl, H8⟩
          clear H9 kr2
          go_wp2
          go_ret2
          refine ⟨_, rfl, C, HCs.out, _, _, rfl, ?_⟩
          rw [hPL.out, hm.out]
          exact (((((H8.front 1 rfl).front 4 rfl).front 4 rfl).front 4 rfl).drop.drop.drop)
end Go.Proofs.Ytpbodonmiepilaa
/- split: the plan is the shortest, plainly. No program in sight. -/
namespace Go.Proofs.Ytpbodonmiepilaa

/-- How many bits blocks have. -/
def lonF (T : List Tok) : List (Int × Int) → Nat → Nat
  | [], _ => 0
  | (c, k) :: r, fr => (blockB (segT T fr c.toNat) k false).length + lonF T r c.toNat
def prs (C : List Nat) (l : List (Nat × Int)) : List (Int × Int) := l.map fun p => (((C.getD p.1 0 : Nat) : Int), p.2)
structure Chn (n : Nat) (l : List (Nat × Int)) : Prop where
  rise : l.Pairwise fun a b => a.1 < b.1
  low : ∀ p ∈ l, p.1 < n
  kind : ∀ p ∈ l, p.2 = 1 ∨ p.2 = 2
def wq (T : List Tok) (C : List Nat) (i : Nat) : Way := bestT T C (waysT T C i) (C.getD i 0) i
theorem ways_wq (T : List Tok) (C : List Nat) {n i : Nat} (h : i < n) : (waysT T C n).getD i (0, 0, 0) = wq T C i := waysT_get T C n i h
theorem bestT_le (T : List Tok) (C : List Nat) (W : List Way) (tt : Nat) : ∀ j k, k < j → (bestT T C W tt j).1 ≤ (W.getD k (0, 0, 0)).1 + cstF (segT T (C.getD k 0) tt)
  | 0, k, h => by omega
  | j + 1, k, h => by
    rw [bestT]
    by_cases hk : k = j
    · subst hk
      split
      · exact Nat.le_refl _
      · next hh => simp only [wayT] at hh; omega
    · have := bestT_le T C W tt j k (by omega)
      split <;> omega
theorem bestT_is (T : List Tok) (C : List Nat) (W : List Way) (tt : Nat) : ∀ j, bestT T C W tt j = wayT T 0 (-1) 0 tt ∨ ∃ k, k < j ∧ bestT T C W tt j = wayT T (W.getD k (0, 0, 0)).1 k (C.getD k 0) tt
  | 0 => .inl rfl
  | j + 1 => by
    rw [bestT]
    split
    · exact .inr ⟨j, by omega, rfl⟩
    · rcases bestT_is T C W tt j with h | ⟨k, hk, h⟩
      · exact .inl h
      · exact .inr ⟨k, by omega, h⟩
theorem wq_le0 (T : List Tok) (C : List Nat) (i : Nat) : (wq T C i).1 ≤ cstF (segT T 0 (C.getD i 0)) := bestT_le0 ..
theorem wq_le (T : List Tok) (C : List Nat) {i j : Nat} (h : j < i) : (wq T C i).1 ≤ (wq T C j).1 + cstF (segT T (C.getD j 0) (C.getD i 0)) := by
  have := bestT_le T C (waysT T C i) (C.getD i 0) i j h
  rwa [ways_wq T C h] at this
theorem wq_is (T : List Tok) (C : List Nat) (i : Nat) : wq T C i = wayT T 0 (-1) 0 (C.getD i 0) ∨ ∃ k, k < i ∧ wq T C i = wayT T (wq T C k).1 k (C.getD k 0) (C.getD i 0) := by
  rcases bestT_is T C (waysT T C i) (C.getD i 0) i with h | ⟨k, hk, h⟩
  · exact .inl h
  · refine .inr ⟨k, hk, ?_⟩
    rwa [ways_wq T C hk] at h
theorem wq_kind (T : List Tok) (C : List Nat) (i : Nat) : (wq T C i).2.2 = 1 ∨ (wq T C i).2.2 = 2 := (bestT_from T C (waysT T C i) (C.getD i 0) i).2.2
theorem lonF_snoc (T : List Tok) (c k : Int) : ∀ (a : List (Int × Int)) (fr : Nat) (p : Int × Int), a.getLast? = some p → lonF T (a ++ [(c, k)]) fr = lonF T a fr + (blockB (segT T p.1.toNat c.toNat) k false).length := by
  intro a
  induction a with
  | nil => intro fr p h; cases h
  | cons q r ih =>
    obtain ⟨c1, k1⟩ := q
    intro fr p h
    rw [List.cons_append, lonF, lonF]
    cases r with
    | nil =>
      simp only [List.getLast?_singleton, Option.some.injEq] at h
      subst h
      simp [lonF]
    | cons q2 r2 =>
      rw [List.getLast?_cons_cons] at h
      rw [ih _ _ h]
      omega
/-- No chain is shorter. -/
theorem chn_least {T : List Tok} {C : List Nat} {n : Nat} : ∀ (l : List (Nat × Int)) (acc fr : Nat), Chn n l → ((fr = 0 ∧ acc = 0) ∨ ∃ j, fr = C.getD j 0 ∧ (wq T C j).1 ≤ acc ∧ ∀ p ∈ l, j < p.1) →
    ∀ p, l.getLast? = some p → (wq T C p.1).1 ≤ acc + lonF T (prs C l) fr := by
  intro l
  induction l with
  | nil => intro acc fr _ _ p h; cases h
  | cons q r ih =>
    obtain ⟨i, k⟩ := q
    intro acc fr hc hst p hp
    have hk : k = 1 ∨ k = 2 := hc.kind (i, k) (by simp)
    have hi : (wq T C i).1 ≤ acc + (blockB (segT T fr (C.getD i 0)) k false).length := by
      have h2 := cst_le (segT T fr (C.getD i 0)) hk
      rcases hst with ⟨rfl, rfl⟩ | ⟨j, rfl, hj, hl⟩
      · have := wq_le0 T C i
        omega
      · have := wq_le T C (show j < i from hl (i, k) (by simp))
        omega
    have hp' := List.pairwise_cons.1 hc.rise
    rw [prs, List.map_cons, lonF]
    simp only [Int.toNat_natCast]
    cases r with
    | nil =>
      simp only [List.getLast?_singleton, Option.some.injEq] at hp
      subst hp
      simp only [List.map_nil, lonF]
      omega
    | cons q2 r2 =>
      rw [List.getLast?_cons_cons] at hp
      have := ih (acc + (blockB (segT T fr (C.getD i 0)) k false).length) (C.getD i 0) ⟨hp'.2, fun x hx => hc.low x (List.mem_cons_of_mem _ hx), fun x hx => hc.kind x (List.mem_cons_of_mem _ hx)⟩ (.inr ⟨i, rfl, hi, hp'.1⟩) p hp
      rw [prs] at this
      omega
theorem chn_wf {C : List Nat} {n N : Nat} (hr : ∀ i j, i < j → j < n → C.getD i 0 < C.getD j 0) (hN : ∀ i, C.getD i 0 ≤ N) : ∀ (l : List (Nat × Int)) (fr : Int), Chn n l → (∀ p ∈ l, fr ≤ (C.getD p.1 0 : Nat)) → wfalls N (prs C l) fr = false := by
  intro l
  induction l with
  | nil => intro fr _ _; rfl
  | cons q r ih =>
    obtain ⟨i, k⟩ := q
    intro fr hc hf
    have hp' := List.pairwise_cons.1 hc.rise
    have h1 := hf (i, k) (by simp)
    have h2 := hN i
    have h3 := hc.kind (i, k) (by simp)
    simp only at h1 h3
    rw [prs, List.map_cons, wfalls]
    have hb : wbad N fr ((C.getD i 0 : Nat) : Int) k = false := by
      unfold wbad
      simp only [Bool.or_eq_false_iff, decide_eq_false_iff_not]
      omega
    rw [hb, Bool.false_or]
    exact ih _ ⟨hp'.2, fun x hx => hc.low x (List.mem_cons_of_mem _ hx), fun x hx => hc.kind x (List.mem_cons_of_mem _ hx)⟩ fun x hx => by
      have := hr i x.1 (hp'.1 x hx) (hc.low x (List.mem_cons_of_mem _ hx))
      simp only
      omega
theorem backT_length (W : List Way) : ∀ (f : Nat) (i : Int), (backT W f i).length ≤ f
  | 0, _ => by simp [backT]
  | f + 1, i => by
    rw [backT]
    split
    · simp
    · have := backT_length W f (W.getD i.toNat (0, 0, 0)).2.1
      simp only [List.length_cons]
      omega
theorem chn_back {T : List Tok} {C : List Nat} {n : Nat} : ∀ (i f : Nat), i < f → i < n → ∃ l : List (Nat × Int), (backT (waysT T C n) f (i : Int)).reverse.map (fun i => (i, (wq T C i).2.2)) = l ∧ Chn n l ∧ l.getLast? = some (i, (wq T C i).2.2) ∧ (∀ p ∈ l, p.1 ≤ i) ∧ lonF T (prs C l) 0 = (wq T C i).1 := by
  intro i
  induction i using Nat.strongRecOn with
  | _ i ih =>
    intro f hif hin
    obtain ⟨f, rfl⟩ : ∃ g, f = g + 1 := ⟨f - 1, by omega⟩
    refine ⟨_, rfl, ?_⟩
    rw [backT_step, ways_wq T C hin]
    have hk := wq_kind T C i
    rcases wq_is T C i with h | ⟨j, hj, h⟩
    · have hf : (wq T C i).2.1 = -1 := by rw [h]; rfl
      rw [hf, backT_neg _ _ (by omega)]
      have hb : (wq T C i).1 = (blockB (segT T 0 (C.getD i 0)) (wq T C i).2.2 false).length := by
        rw [h]
        simp only [wayT]
        rw [(cst_kd _).1]
        omega
      refine ⟨⟨by simp, by simp; exact hin, by simp; exact hk⟩, by simp, by simp, ?_⟩
      simp [prs, lonF, hb]
    · have hf : (wq T C i).2.1 = (j : Int) := by rw [h]; rfl
      obtain ⟨l, hl, hc, hlast, hle, hlon⟩ := ih j hj f (by omega) (by omega)
      rw [hf, List.reverse_cons, List.map_append, hl]
      have hb : (wq T C i).1 = (wq T C j).1 + (blockB (segT T (C.getD j 0) (C.getD i 0)) (wq T C i).2.2 false).length := by
        rw [h]
        simp only [wayT]
        rw [(cst_kd _).1]
      simp only [List.map_cons, List.map_nil]
      refine ⟨⟨?_, ?_, ?_⟩, by simp, ?_, ?_⟩
      · rw [List.pairwise_append]
        refine ⟨hc.rise, by simp, fun a ha b hb => ?_⟩
        simp only [List.mem_singleton] at hb
        subst hb
        have := hle a ha
        simp only
        omega
      · intro p hp
        rcases List.mem_append.1 hp with hp | hp
        · exact hc.low p hp
        · simp only [List.mem_singleton] at hp; subst hp; exact hin
      · intro p hp
        rcases List.mem_append.1 hp with hp | hp
        · exact hc.kind p hp
        · simp only [List.mem_singleton] at hp; subst hp; exact hk
      · intro p hp
        rcases List.mem_append.1 hp with hp | hp
        · have := hle p hp; omega
        · simp only [List.mem_singleton] at hp; subst hp; exact Nat.le_refl _
      · rw [prs, List.map_append, ← prs]
        simp only [List.map_cons, List.map_nil]
        rw [lonF_snoc T _ _ (prs C l) 0 (((C.getD j 0 : Nat) : Int), (wq T C j).2.2) (by rw [prs, List.getLast?_map, hlast]; rfl), hlon, hb]
        simp only [Int.toNat_natCast]
/-- What a plan is. -/
structure PlanOk (T : List Tok) (C : List Nat) (cs ks : List Int) : Prop where
  ex : ∃ l : List (Nat × Int), cs = l.map (fun p => ((C.getD p.1 0 : Nat) : Int)) ∧ ks = l.map (fun p => p.2) ∧ Chn C.length l ∧ (∃ k, l.getLast? = some (C.length - 1, k)) ∧ lonF T (prs C l) 0 = (wq T C (C.length - 1)).1 ∧ l.length = (planI T C).length ∧ l.length ≤ C.length
theorem plan_ok {T : List Tok} {C : List Nat} (h0 : 0 < C.length) : PlanOk T C (atT T C) (ksT T C) := by
  obtain ⟨l, hl, hc, hlast, hle, hlon⟩ := chn_back (T := T) (C := C) (n := C.length) (C.length - 1) C.length (by omega) (by omega)
  have hp : planI T C = backT (waysT T C C.length) C.length ((C.length - 1 : Nat) : Int) := by
    unfold planI
    rw [show ((C.length - 1 : Nat) : Int) = (C.length : Int) - 1 by omega]
  rw [← hp] at hl
  have hlen := backT_length (waysT T C C.length) C.length ((C.length - 1 : Nat) : Int)
  rw [← hp] at hlen
  have hmem : ∀ i ∈ planI T C, i < C.length := fun i hi => by
    have : (i, (wq T C i).2.2) ∈ l := by
      rw [← hl]
      exact List.mem_map.2 ⟨i, List.mem_reverse.2 hi, rfl⟩
    exact hc.low _ this
  refine ⟨l, ?_, ?_, hc, ⟨_, hlast⟩, hlon, by rw [← hl]; simp, by rw [← hl]; simpa using hlen⟩
  · rw [← hl, atT, ← List.map_reverse, List.map_map]
    rfl
  · rw [← hl, ksT, ← List.map_reverse, List.map_map]
    refine List.map_congr_left fun i hi => ?_
    rw [ways_wq T C (hmem i (List.mem_reverse.1 hi))]
    rfl
end Go.Proofs.Ytpbodonmiepilaa
/- lz: the walks of what tells whether a token may stand. -/
namespace Go.Proofs.Ytpbodonmiepilaa
open Go.RowKit

end Go.Proofs.Ytpbodonmiepilaa
/- lz: the walk of Expand. -/
namespace Go.Proofs.Ytpbodonmiepilaa
open Go.RowKit

def resVal : Res → Value
  | .err e => .tuple #[.string ⟨#[]⟩, .int .i64 e]
  | .ok out => .tuple #[.string (strOfNums out), .int .i64 0]

end Go.Proofs.Ytpbodonmiepilaa
/- split: the walk of With. -/
namespace Go.Proofs.Ytpbodonmiepilaa
open Go.RowKit

def wV : Option (List Bool) → Value
  | none => .tuple #[.string ⟨#[]⟩, .int .i64 1]
  | some R => .tuple #[.string (textOf R), .int .i64 0]
/-- What With answers. -/
def withV (T : List Tok) (cs ks : List Int) : Value :=
  if cs.length = 0 ∨ cs.length ≠ ks.length ∨ cs.getD (cs.length - 1) 0 ≠ T.length then .tuple #[.string ⟨#[]⟩, .int .i64 1]
  else match exp 2147483648 T [] with
    | .err e => .tuple #[.string ⟨#[]⟩, .int .i64 e]
    | .ok _ => wV (wloop T (cs.zip ks) 0 [])
theorem zip_drop {cs ks : List Int} {i : Nat} (h1 : i < cs.length) (h2 : i < ks.length) : (cs.zip ks).drop i = (cs.getD i 0, ks.getD i 0) :: (cs.zip ks).drop (i + 1) := by
  have h : i < (cs.zip ks).length := by rw [List.length_zip]; omega
  rw [List.drop_eq_getElem_cons h, List.getElem_zip]
  simp [List.getD, List.getElem?_eq_getElem h1, List.getElem?_eq_getElem h2]
end Go.Proofs.Ytpbodonmiepilaa
/- lz: the walk of the document's Expand. -/
namespace Go.Proofs.Ytpbodonmiepilaa
open Go.RowKit

end Go.Proofs.Ytpbodonmiepilaa
/- huff: the walk of the document's Weight. -/
namespace Go.Proofs.Ytpbodonmiepilaa
open Go.RowKit

end Go.Proofs.Ytpbodonmiepilaa
/- huff: the walk of the document's May. -/
namespace Go.Proofs.Ytpbodonmiepilaa
open Go.RowKit

end Go.Proofs.Ytpbodonmiepilaa
/- huff: the walk of the document's Codes. -/
namespace Go.Proofs.Ytpbodonmiepilaa
open Go.RowKit


end Go.Proofs.Ytpbodonmiepilaa
/- huff: the walks of the document's plain functions. -/
namespace Go.Proofs.Ytpbodonmiepilaa
open Go.RowKit



end Go.Proofs.Ytpbodonmiepilaa
/- huff: the walks of New and of the document's MayTable. -/
namespace Go.Proofs.Ytpbodonmiepilaa
open Go.RowKit

end Go.Proofs.Ytpbodonmiepilaa
/- Bits: the document's Left, Take. -/
namespace Go.Proofs.Ytpbodonmiepilaa
open Go.RowKit

/-- The document's reader of a text, n bits taken. -/
def RRdr (g : Nat) (s : ByteArray) (n : Nat) : Piece := blk g (.cells #[.string s, .int .i64 n] 69)
end Go.Proofs.Ytpbodonmiepilaa
/- The document's Reader: Align, Text. -/
namespace Go.Proofs.Ytpbodonmiepilaa
open Go.RowKit

end Go.Proofs.Ytpbodonmiepilaa
/- inflate, the document's: the state; the walks of fault, ran, take. -/
namespace Go.Proofs.Ytpbodonmiepilaa
open Go.RowKit

/-- The document's state: of a text, n bits taken; what there is, the limit, the first fault. -/
def Sta (g rg : Nat) (s : ByteArray) (n : Nat) (out : List Int) (most e : Int) : Piece := ex fun v : Value => ex fun b : Bool =>
  star (blk g (.cells #[.pointer (some ⟨rg, 0, none⟩), v, .int .i64 most, .int .i64 e, .bool b] 67)) (star (slc 5 1 v out.length (bcells out)) (RRdr rg s n))
/-- The first fault. -/
def fltF (bad : Bool) (x e : Int) : Int := if bad = true ∧ e = 0 then x else e
end Go.Proofs.Ytpbodonmiepilaa
/- huff: the walks of the document's Find and Decode. -/
namespace Go.Proofs.Ytpbodonmiepilaa
open Go.RowKit

end Go.Proofs.Ytpbodonmiepilaa
/- As XCalm: of the operations in 'tw', whose values are known, too, S is told when they were done. No program in sight. (Written by tools/trk.py.) -/
namespace Go.Proofs.Ytpbodonmiepilaa.Trk
open Go.RowKit

def trk (tw : List Nat) (i : Nat) (v : Value) (σ : Sig) : Sig := if i ∈ tw then σ.upd i v else σ
/-- In every world that meets S the operation yields v, and S holds behind it. -/
def Calm1 (P : Program) (S : Sig → World → Prop) (tw : List Nat) (i : Nat) (o : Oper) (a : Act) (v : Value) : Prop :=
  ∀ σ w, S σ w → (i ∈ tw → σ i = none) → ∀ (K : Act → World → Prop) (Q : Exit → Act → World → Prop), (∀ w', S (trk tw i v σ) w' → K (a.put o.dst v) w') → o.wp P a w K Q

def calm (P : Program) (ops : Array Oper) (S : Sig → World → Prop) (nw tw : List Nat) (R : Act → Prop) : Nat → List Oper → Act → Prop
  | _, [], a => R a
  | i, o :: rest, a => (i ∈ nw ∧ New1 P S i o a ∧ calm P ops S nw tw R (i + 1) rest a) ∨
      (i ∉ nw ∧ Region.wanted o (yielded ops a.tmps) = true ∧ ∃ v, Calm1 P S tw i o a v ∧ calm P ops S nw tw R (i + 1) rest (a.put o.dst v)) ∨
      (i ∉ nw ∧ Region.wanted o (yielded ops a.tmps) = false ∧ calm P ops S nw tw R (i + 1) rest (a.put o.dst undef))

section
variable {P : Program} {ops : Array Oper} {S : Sig → World → Prop} {nw tw : List Nat} {R : Act → Prop} {a : Act} {o : Oper} {rest : List Oper} {i : Nat}
theorem calm_nil (h : R a) : calm P ops S nw tw R i [] a := h
theorem calm_step (v : Value) (hi : i ∉ nw) (hw : Region.wanted o (yielded ops a.tmps) = true)
    (h1 : ∀ σ w, S σ w → (i ∈ tw → σ i = none) → ∀ (K : Act → World → Prop) (Q : Exit → Act → World → Prop), (∀ w', S (trk tw i v σ) w' → K (a.put o.dst v) w') → o.wp P a w K Q) (h : calm P ops S nw tw R (i + 1) rest (a.put o.dst v)) : calm P ops S nw tw R i (o :: rest) a := .inr (.inl ⟨hi, hw, v, h1, h⟩)
theorem calm_skip (hi : i ∉ nw) (hw : Region.wanted o (yielded ops a.tmps) = false)
    (h : calm P ops S nw tw R (i + 1) rest (a.put o.dst undef)) : calm P ops S nw tw R i (o :: rest) a := .inr (.inr ⟨hi, hw, h⟩)
theorem calm_new (hi : i ∈ nw)
    (h1 : ∀ σ w, S σ w → ∀ (K : Act → World → Prop) (Q : Exit → Act → World → Prop), (∀ v w', S (σ.upd i v) w' → K (a.put o.dst v) w') → o.wp P a w K Q) (h : calm P ops S nw tw R (i + 1) rest a) : calm P ops S nw tw R i (o :: rest) a := .inl ⟨hi, h1, h⟩
end

section
variable {P : Program} {ops : Array Oper} {S : Sig → World → Prop} {nw tw : List Nat}
theorem calm_frames {R : Act → Prop} : ∀ (l : List Oper) (i : Nat) (a : Act), calm P ops S nw tw R i l a →
    ∃ vs : List Value, vs.length = l.length ∧ R (frames ((dets nw i l).zip vs) a) ∧
      ∀ k o, l[k]? = some o → ∃ v, vs[k]? = some v ∧
        ((i + k ∈ nw ∧ New1 P S (i + k) o (frames (((dets nw i l).zip vs).take k) a)) ∨
         (i + k ∉ nw ∧ Region.wanted o (yielded ops (frames (((dets nw i l).zip vs).take k) a).tmps) = true ∧ Calm1 P S tw (i + k) o (frames (((dets nw i l).zip vs).take k) a) v) ∨
         (i + k ∉ nw ∧ Region.wanted o (yielded ops (frames (((dets nw i l).zip vs).take k) a).tmps) = false ∧ v = undef)) := by
  intro l
  induction l with
  | nil => intro i a h; exact ⟨[], rfl, h, fun k o hk => by simp at hk⟩
  | cons o l ih =>
    intro i a h
    have step : ∀ (v : Value) (a' : Act), a' = a.put (if i ∈ nw then none else o.dst) v → calm P ops S nw tw R (i + 1) l a' →
        ((i ∈ nw ∧ New1 P S i o a) ∨ (i ∉ nw ∧ Region.wanted o (yielded ops a.tmps) = true ∧ Calm1 P S tw i o a v) ∨ (i ∉ nw ∧ Region.wanted o (yielded ops a.tmps) = false ∧ v = undef)) → ∃ vs : List Value, vs.length = (o :: l).length ∧ R (frames ((dets nw i (o :: l)).zip vs) a) ∧
      ∀ k o', (o :: l)[k]? = some o' → ∃ v, vs[k]? = some v ∧
        ((i + k ∈ nw ∧ New1 P S (i + k) o' (frames (((dets nw i (o :: l)).zip vs).take k) a)) ∨
         (i + k ∉ nw ∧ Region.wanted o' (yielded ops (frames (((dets nw i (o :: l)).zip vs).take k) a).tmps) = true ∧ Calm1 P S tw (i + k) o' (frames (((dets nw i (o :: l)).zip vs).take k) a) v) ∨
         (i + k ∉ nw ∧ Region.wanted o' (yielded ops (frames (((dets nw i (o :: l)).zip vs).take k) a).tmps) = false ∧ v = undef)) := by
      intro v a' ha hc h0
      obtain ⟨vs, hl, hR, hk⟩ := ih _ _ hc
      refine ⟨v :: vs, by simp [hl], by rw [ha] at hR; exact hR, fun k o' hk' => ?_⟩
      cases k with
      | zero => simp at hk'; subst hk'; exact ⟨v, rfl, h0⟩
      | succ k =>
        have := hk k o' (by simpa using hk')
        rw [ha, show i + 1 + k = i + (k + 1) by omega] at this
        exact this
    rcases h with ⟨hi, h1, h2⟩ | ⟨hi, hw, v, h1, h2⟩ | ⟨hi, hw, h2⟩
    · exact step undef a (by rw [if_pos hi]; rfl) h2 (.inl ⟨hi, h1⟩)
    · exact step v _ (by rw [if_neg hi]) h2 (.inr (.inl ⟨hi, hw, h1⟩))
    · exact step undef _ (by rw [if_neg hi]) h2 (.inr (.inr ⟨hi, hw, rfl⟩))

theorem Calm1.at {tw : List Nat} {i : Nat} {o : Oper} {a a' : Act} {v : Value} (h : Calm1 P S tw i o a v) (he : execOp a'.eval o = execOp a.eval o) (hs : a.tmps.size = a'.tmps.size) {σ : Sig} {w : World} (hw : S σ w) (hfr : i ∈ tw → σ i = none)
    (K : Act → World → Prop) (Q : Exit → Act → World → Prop) (hK : ∀ w', S (trk tw i v σ) w' → K (a'.put o.dst v) w') : o.wp P a' w K Q := by
  have h1 := h σ w hw hfr (fun a1 w1 => a1 = a.put o.dst v ∧ S (trk tw i v σ) w1) (fun _ _ _ => False) (fun w' hw' => ⟨rfl, hw'⟩)
  unfold Oper.wp at *
  rw [he]
  generalize (execOp a.eval o).run P w = r at *
  cases r with
  | ok n w' =>
    cases n <;> simp only [Oper.upon] at h1 ⊢
    case value u => rw [put_eq hs h1.1]; exact hK _ h1.2
    case skip => rw [put_eq hs h1.1]; exact hK _ h1.2
    case defer d =>
      have := congrArg (fun x => x.defers.length) h1.1
      cases hd : o.dst <;> simp [Act.put, hd] at this
    case enter f args =>
      refine Calls.mono h1 fun e w'' he => ?_
      cases e with
      | returned u =>
        show K (a'.put o.dst u) w''
        rw [put_eq hs he.1]; exact hK _ he.2
      | panicked c => exact he.elim
      | outgrown => obtain ⟨_, _, hh⟩ := he; exact hh.elim
    case row row args => exact Rows.mono h1 fun u w'' he => by rw [put_eq hs he.1]; exact hK _ he.2
  | halt x w' => cases x <;> simp only [Oper.upon] at h1 ⊢
theorem wpAny_new {Q : Exit → Act → World → Prop} {a a0 : Act} {w : World} {l : List Oper} (S : Sig → World → Prop) (n : Nat) (nw tw : List Nat) (pre : List Nat) (htw : ∀ k ∈ tw, k < n ∧ k ∉ nw ∧ k ∉ pre ∧ ∀ o, l[k]? = some o → o.guard = none) (hok : calmOk l.toArray n nw pre = true) (hS : S Sig.no w)
    (h : calm P l.toArray S nw tw (fun a' => ∀ σ w', (∀ k ∈ nw, (σ k).isSome = true) → (∀ k ∈ tw, (σ k).isSome = true) → S σ w' → wpList P l.toArray Q (l.drop n) (putNew l nw σ a') w') 0 (l.take n) a)
    (listed0 : Array Bool) (hs0 : listed0.size = l.length) (hl0 : ∀ k, k < l.length → listed0.getD k true = true → k ∈ pre) (hp0 : ∀ p ∈ pre, listed0.getD p true = true)
    (ha0 : PreRun P l pre a a0) :
    wpAny P .any l.toArray Q (left listed0) listed0 a0 w := by
  have g := good_of hok
  have hnl : n ≤ l.length := by simpa using g.le
  obtain ⟨vs, hvl, hR, hk⟩ := calm_frames _ _ _ h
  have hvn : vs.length = n := by simp [hvl, hnl]
  obtain ⟨D, hD⟩ : ∃ D, (dets nw 0 (l.take n)).zip vs = D := ⟨_, rfl⟩
  rw [hD] at hR hk
  simp only [Nat.zero_add] at hk
  have hDl : D.length = n := by rw [← hD]; simp [dets_length, hvn, hnl]
  have hget : ∀ k, k < n → (dets nw 0 (l.take n))[k]? = (l[k]?).map fun o => if k ∈ nw then none else o.dst := by
    intro k hk
    rw [dets_get]
    simp [hk]
  -- the k-th of D
  have hDk : ∀ (k : Nat) (o : Oper) (v : Value), k < n → k ∉ nw → l[k]? = some o → vs[k]? = some v → D[k]? = some (o.dst, v) := by
    intro k o v hkn hnk ho hv
    rw [← hD, List.getElem?_zip_eq_some]
    refine ⟨?_, hv⟩
    rw [hget k hkn, ho]
    simp [hnk]
  have hDd : ∀ (k : Nat) (t : Tmp) (v : Value), D[k]? = some (some t, v) → k < n ∧ k ∉ nw ∧ ∃ o, l[k]? = some o ∧ o.dst = some t := by
    intro k t v hk
    have hkn : k < n := by rw [← hDl]; exact (List.getElem?_eq_some_iff.1 hk).1
    rw [← hD, List.getElem?_zip_eq_some] at hk
    obtain ⟨h1, _⟩ := hk
    rw [hget k hkn, Option.map_eq_some_iff] at h1
    obtain ⟨o, ho, hd⟩ := h1
    by_cases hnk : k ∈ nw
    · simp [hnk] at hd
    · rw [if_neg hnk] at hd
      exact ⟨hkn, hnk, o, ho, hd⟩
  have huniq : ∀ (j k : Nat) (t : Tmp) (u v : Value), k ≠ j → D[k]? = some (some t, u) → D[j]? ≠ some (some t, v) := by
    intro j k t u v hkj h1 h2
    obtain ⟨hkn, _, ok, hok', hdk⟩ := hDd k _ u h1
    obtain ⟨hjn, _, oj, hoj, hdj⟩ := hDd j _ v h2
    exact (g.pair k j ok oj t hkn hjn hkj (by simpa using hok') (by simpa using hoj) hdk).1 hdj
  -- .. with the new ones' values
  obtain ⟨F, hF⟩ : ∃ F : Sig → Nat → Option (Option Tmp × Value), ∀ σ k, F σ k = if k ∈ nw then (l[k]?).map fun o => (o.dst, (σ k).getD undef) else D[k]? := ⟨_, fun _ _ => rfl⟩
  have hFd : ∀ (σ : Sig) (k : Nat) (t : Tmp) (v : Value), F σ k = some (some t, v) → k < n ∧ ∃ o, l[k]? = some o ∧ o.dst = some t := by
    intro σ k t v hk
    rw [hF] at hk
    by_cases hnk : k ∈ nw
    · rw [if_pos hnk, Option.map_eq_some_iff] at hk
      obtain ⟨o, ho, hd⟩ := hk
      exact ⟨g.newLt k hnk, o, ho, by simp at hd; exact hd.1⟩
    · rw [if_neg hnk] at hk
      obtain ⟨h1, _, h3⟩ := hDd k t v hk
      exact ⟨h1, h3⟩
  have hFu : ∀ (σ : Sig) (j k : Nat) (t : Tmp) (u v : Value), k ≠ j → F σ k = some (some t, u) → F σ j ≠ some (some t, v) := by
    intro σ j k t u v hkj h1 h2
    obtain ⟨hkn, ok, hok', hdk⟩ := hFd σ k _ u h1
    obtain ⟨hjn, oj, hoj, hdj⟩ := hFd σ j _ v h2
    exact (g.pair k j ok oj t hkn hjn hkj (by simpa using hok') (by simpa using hoj) hdk).1 hdj
  have hend : ∀ (E : Nat → Prop) (a' : Act) (σ : Sig), (∀ k, k < n → E k) → Agree (F σ) E a a' → a' = putNew l nw σ (frames D a) := by
    intro E a' σ hall hA
    have hB := agree_frames D huniq a n (by omega)
    rw [List.take_of_length_le (by omega)] at hB
    obtain ⟨k1, k2⟩ := putNew_keeps l σ nw (frames D a)
    refine act_ext ?_ (hA.defers.trans (hB.defers.symm.trans k1.symm))
    apply Array.ext_getElem?
    intro t
    by_cases hts : t < a.tmps.size
    · by_cases hw : ∃ (k : Nat) (v : Value), F σ k = some (some t, v)
      · obtain ⟨k, v, hkv⟩ := hw
        obtain ⟨hkn, o, ho, hd⟩ := hFd σ k _ v hkv
        rw [hA.wrote k t v (hall k hkn) hkv hts]
        have hkv' := hkv
        rw [hF] at hkv
        by_cases hnk : k ∈ nw
        · rw [if_pos hnk, ho] at hkv
          simp at hkv
          rw [putNew_new l σ t k nw _ hnk (by simp [ho, hd]) (fun j hj hdj => ?_) (by rw [hB.size]; exact hts), hkv.2]
          by_cases hjk : j = k
          · exact hjk
          · exfalso
            cases hlj : l[j]? with
            | none => rw [hlj] at hdj; cases hdj
            | some oj =>
              rw [hlj] at hdj
              refine hFu σ j k t v ((σ j).getD undef) (Ne.symm hjk) hkv' ?_
              rw [hF, if_pos hj, hlj]
              simp at hdj
              simp [hdj]
        · rw [if_neg hnk] at hkv
          rw [putNew_old l σ t nw _ fun j hj hdj => ?_, hB.wrote k t v hkn hkv hts]
          cases hlj : l[j]? with
          | none => rw [hlj] at hdj; cases hdj
          | some oj =>
            rw [hlj] at hdj
            refine hFu σ j k t v ((σ j).getD undef) (fun e => hnk (e ▸ hj)) hkv' ?_
            rw [hF, if_pos hj, hlj]
            simp at hdj
            simp [hdj]
      · rw [hA.kept t fun k v _ hkv => hw ⟨k, v, hkv⟩, putNew_old l σ t nw _ fun j hj hdj => ?_, hB.kept t fun k v _ hkv => ?_]
        · obtain ⟨_, hnk, _⟩ := hDd k t v hkv
          exact hw ⟨k, v, by rw [hF, if_neg hnk]; exact hkv⟩
        · cases hlj : l[j]? with
          | none => rw [hlj] at hdj; cases hdj
          | some oj =>
            rw [hlj] at hdj
            refine hw ⟨j, (σ j).getD undef, ?_⟩
            rw [hF, if_pos hj, hlj]
            simp at hdj
            simp [hdj]
    · rw [Array.getElem?_eq_none (show a'.tmps.size ≤ t from by rw [hA.size]; exact Nat.le_of_not_lt hts), Array.getElem?_eq_none (show (putNew l nw σ (frames D a)).tmps.size ≤ t from by rw [k2, hB.size]; exact Nat.le_of_not_lt hts)]
  have main : ∀ (fuel : Nat) (listed : Array Bool) (a' : Act) (w' : World) (σ : Sig), listed.size = l.length → left listed = fuel → (∀ j, n ≤ j → j < l.length → listed.getD j true = false) →
      (∀ k o, k < l.length → listed.getD k true = true → l[k]? = some o → ∀ e ∈ o.after, Region.binds .any e = true → listed.getD e.on false = true) →
      (∀ k ∈ nw, listed.getD k true = true → (σ k).isSome = true) → (∀ k ∈ tw, (listed.getD k true = true → (σ k).isSome = true) ∧ (listed.getD k true = false → σ k = none)) → (∀ p ∈ pre, listed.getD p true = true) →
      Agree (F σ) (fun k => k < n ∧ listed.getD k true = true) a a' → S σ w' → wpAny P .any l.toArray Q fuel listed a' w' := by
    intro fuel
    induction fuel with
    | zero =>
      intro listed a' w' σ hs hl ht hc hσ hτ hP hA hSw
      have hall : ∀ k, k < l.length → listed.getD k true = true := fun k hk => by
        cases hkk : listed.getD k true with
        | true => rfl
        | false => have := left_pos (j := k) (by omega) hkk; omega
      have hn : n = l.length := by
        rcases Nat.lt_or_ge n l.length with h | h
        · have := hall n h; rw [ht n (Nat.le_refl _) h] at this; cases this
        · omega
      refine tail_any g 0 n listed a' w' hs (Nat.le_refl _) (fun k _ hk => hall k hk) ht hl ?_
      rw [hend _ a' σ (fun k hk => ⟨hk, hall k (by omega)⟩) hA]
      exact hR σ w' (fun k hk => hσ k hk (hall k (by have := g.newLt k hk; omega))) (fun k hk => (hτ k hk).1 (hall k (by have := (htw k hk).1; omega))) hSw
    | succ fuel ih =>
      intro listed a' w' σ hs hl ht hc hσ hτ hP hA hSw
      by_cases hpre : ∀ k, k < n → listed.getD k true = true
      · refine tail_any g (fuel + 1) n listed a' w' hs (Nat.le_refl _) (fun k hk _ => hpre k hk) ht hl ?_
        rw [hend _ a' σ (fun k hk => ⟨hk, hpre k hk⟩) hA]
        exact hR σ w' (fun k hk => hσ k hk (hpre k (g.newLt k hk))) (fun k hk => (hτ k hk).1 (hpre k (htw k hk).1)) hSw
      · -- the least that is not listed is ready
        have hex : ∃ k, k < n ∧ listed.getD k true = false := by
          rcases Classical.em (∃ k, k < n ∧ listed.getD k true = false) with h | h
          · exact h
          · exact absurd (fun k hk => by
              cases hkk : listed.getD k true with
              | true => rfl
              | false => exact absurd ⟨k, hk, hkk⟩ h) hpre
        obtain ⟨m, hm, hmin⟩ : ∃ m, (m < n ∧ listed.getD m true = false) ∧ ∀ k, k < m → listed.getD k true = true := by
          obtain ⟨k, hk⟩ := hex
          induction k using Nat.strongRecOn with
          | _ k ihk =>
            rcases Classical.em (∃ j, j < k ∧ listed.getD j true = false) with ⟨j, hj, hjl⟩ | h
            · exact ihk j hj ⟨by omega, hjl⟩
            · refine ⟨k, hk, fun j hj => ?_⟩
              cases hjj : listed.getD j true with
              | true => rfl
              | false => exact absurd ⟨j, hj, hjj⟩ h
        obtain ⟨om, hom⟩ : ∃ o, l[m]? = some o := ⟨_, List.getElem?_eq_getElem (by omega)⟩
        have hready : m ∈ Region.ready .any l.toArray listed := mem_ready.2 ⟨by simp; omega, hm.2, om, by simpa using hom, fun e he hb => by
          have := g.low m om (by simpa using hom) e he hb
          rw [← getD_tf (by omega)]
          exact hmin _ this⟩
        refine ⟨fun h => (by rw [h] at hready; cases hready), fun i hi => ?_⟩
        obtain ⟨hi1, hi2, o, ho, hi3⟩ := mem_ready.1 hi
        have hi1 : i < l.length := by simpa using hi1
        have hol : l[i]? = some o := by simpa using ho
        have hin : i < n := by
          rcases Nat.lt_trichotomy i n with h | h | h
          · exact h
          · -- all that it waits for, and so all, are listed
            subst h
            have hall : ∀ d k, i - k = d → k < i → listed.getD k true = true := by
              intro d
              induction d using Nat.strongRecOn with
              | _ d ihd =>
                intro k hd hk
                by_cases hpk : k ∈ pre
                · exact hP k hpk
                obtain ⟨j, hkj, hji, oj, hoj, hwj⟩ := g.sink (by simpa using hi1) k hk hpk
                obtain ⟨e, he, hb, heq⟩ := waits_spec hwj
                rw [getD_tf (by omega), ← heq]
                rcases Nat.lt_or_ge j i with hlt | hge
                · have hjl := ihd (i - j) (by omega) j rfl hlt
                  exact hc j oj (by omega) hjl (by simpa using hoj) e he hb
                · have : j = i := by omega
                  subst this
                  rw [ho] at hoj
                  cases hoj
                  exact hi3 e he hb
            have := hall _ m rfl hm.1
            rw [hm.2] at this
            cases this
          · obtain ⟨e, he, hb, heq⟩ := waits_spec (g.chain i o h (by simpa using hol))
            have := hi3 e he hb
            rw [heq, ← getD_tf (by omega), ht (i - 1) (by omega) (by omega)] at this
            cases this
        obtain ⟨v, hv, hcase⟩ := hk i o (by simp [hin, hol])
        have hAi := agree_frames D huniq a i (by omega)
        have hsame := same_op (ops := l.toArray) (o := o) (a := frames (D.take i) a) (a' := a') (g.noSel i o ho) (by
          intro t htl
          by_cases hw : ∃ (k : Nat) (u : Value), F σ k = some (some t, u)
          · obtain ⟨k, u, hku⟩ := hw
            obtain ⟨hkn, ok, hok', hdk⟩ := hFd σ k _ u hku
            have hnk : k ∉ nw := fun hnk => g.newApart k hnk ok t (by simpa using hok') hdk i o hin ho htl
            have hDu : D[k]? = some (some t, u) := by rw [hF, if_neg hnk] at hku; exact hku
            by_cases hts : t < a.tmps.size
            · have hki : k ≠ i := fun e => by
                subst e
                rw [hol] at hok'
                cases hok'
                exact g.own k o t hkn ho hdk htl
              rcases (g.pair k i ok o t hkn hin hki (by simpa using hok') ho hdk).2 with h1 | ⟨hlt, hwt⟩ | ⟨hlt, hwt⟩
              · exact absurd htl h1
              · obtain ⟨e, he, hb, heq⟩ := waits_spec hwt
                have hkl : listed.getD k true = true := by
                  rw [getD_tf (by omega), ← heq]; exact hi3 e he hb
                rw [hA.wrote k t u ⟨hkn, hkl⟩ hku hts, hAi.wrote k t u hlt hDu hts]
              · obtain ⟨e, he, hb, heq⟩ := waits_spec hwt
                have hkl : ¬ listed.getD k true = true := fun hkl => by
                  have := hc k ok (by omega) hkl hok' e he hb
                  rw [heq, ← getD_tf (by omega), hi2] at this
                  cases this
                rw [hA.kept t fun k' u' hk' hD' => ?_, hAi.kept t fun k' u' hk' hD' => ?_]
                · by_cases hkk : k' = k
                  · subst hkk; omega
                  · exact huniq k k' t u' u hkk hD' hDu
                · by_cases hkk : k' = k
                  · subst hkk; exact hkl hk'.2
                  · exact hFu σ k k' t u' u hkk hD' hku
            · rw [Array.getElem?_eq_none (show a'.tmps.size ≤ t from by rw [hA.size]; exact Nat.le_of_not_lt hts), Array.getElem?_eq_none (show (frames (D.take i) a).tmps.size ≤ t from by rw [hAi.size]; exact Nat.le_of_not_lt hts)]
          · rw [hA.kept t fun k v _ hkv => hw ⟨k, v, hkv⟩, hAi.kept t fun k v _ hkv => ?_]
            obtain ⟨_, hnk, _⟩ := hDd k t v hkv
            exact hw ⟨k, v, by rw [hF, if_neg hnk]; exact hkv⟩)
        have hset : ∀ k b, (listed.setIfInBounds i true).getD k b = if k = i then true else listed.getD k b := by
          intro k b
          by_cases hki : k = i
          · subst hki; simp [hs, hi1]
          · have : i ≠ k := Ne.symm hki
            simp [Array.getElem?_setIfInBounds_ne this, hki]
        have next : ∀ (σ' : Sig) (u : Value) w'', F σ' i = some (o.dst, u) → Agree (F σ') (fun k => k < n ∧ listed.getD k true = true) a a' → (∀ k ∈ nw, (listed.setIfInBounds i true).getD k true = true → (σ' k).isSome = true) → (∀ k ∈ tw, ((listed.setIfInBounds i true).getD k true = true → (σ' k).isSome = true) ∧ ((listed.setIfInBounds i true).getD k true = false → σ' k = none)) → S σ' w'' →
            wpAny P .any l.toArray Q fuel (listed.setIfInBounds i true) (a'.put o.dst u) w'' := by
          intro σ' u w'' hFi hA' hσ' hτ' hSw''
          refine ih _ _ w'' σ' (by simpa using hs) (by have := left_set (j := i) (by omega) hi2; omega) ?_ ?_ hσ' hτ' (fun p hp => by rw [hset]; split <;> first | rfl | exact hP p hp) ?_ hSw''
          · intro j hj hjl
            rw [hset, if_neg (by omega)]
            exact ht j hj hjl
          · intro k ok hkl hkt hok' e he hb
            rw [hset]
            split
            · rfl
            · rw [hset] at hkt
              by_cases hki : k = i
              · subst hki
                rw [hol] at hok'
                cases hok'
                exact hi3 e he hb
              · rw [if_neg hki] at hkt
                exact hc k ok hkl hkt hok' e he hb
          · have := hA'.put (j := i) hFi (fun k t u' hki hD' e => hFu σ' i k t u' u hki hD' (by rw [hFi, e]))
            refine ⟨this.defers, this.size, fun k t u hk => this.wrote k t u ?_, fun t ht => this.kept t fun k u hk => ht k u ?_⟩
            · obtain ⟨h1, h2⟩ := hk
              rw [hset] at h2
              by_cases hki : k = i
              · exact .inr hki
              · rw [if_neg hki] at h2; exact .inl ⟨h1, h2⟩
            · rw [hset]
              rcases hk with ⟨h1, h2⟩ | rfl
              · exact ⟨h1, by split <;> first | rfl | exact h2⟩
              · exact ⟨hin, by simp⟩
        have hσset : i ∉ nw → ∀ k ∈ nw, (listed.setIfInBounds i true).getD k true = true → (σ k).isSome = true := fun hni k hk hkl => by
          rw [hset, if_neg (fun (e : k = i) => hni (e ▸ hk))] at hkl
          exact hσ k hk hkl
        have hτset : i ∉ tw → ∀ k ∈ tw, ((listed.setIfInBounds i true).getD k true = true → (σ k).isSome = true) ∧ ((listed.setIfInBounds i true).getD k true = false → σ k = none) := fun hni k hk => by
          rw [hset, if_neg (fun (e : k = i) => hni (e ▸ hk))]
          exact hτ k hk
        unfold wpOp
        simp only [ho]
        rcases hcase with ⟨hni, hn1⟩ | ⟨hni, hw1, hc1⟩ | ⟨hni, hw1, rfl⟩
        · have hg := g.newPlain i hni o ho
          rw [show Region.wanted o (yielded l.toArray a'.tmps) = true by simp [Region.wanted, hg]]
          refine .inl (hn1.at hsame.1 (by rw [hAi.size, hA.size]) hSw _ _ fun u w'' hSu => ?_)
          refine next (σ.upd i u) u w'' (by rw [hF, if_pos hni, hol]; simp [Sig.upd]) ?_ ?_ ?_ hSu
          · have hne : ∀ k, (k < n ∧ listed.getD k true = true) → F (σ.upd i u) k = F σ k := fun k hk => by
              have hki : k ≠ i := fun e => by subst e; rw [hi2] at hk; cases hk.2
              rw [hF, hF]
              simp [Sig.upd, hki]
            exact ⟨hA.defers, hA.size, fun k t u' hk hD' => hA.wrote k t u' hk (by rw [← hne k hk]; exact hD'), fun t ht => hA.kept t fun k u' hk => by rw [← hne k hk]; exact ht k u' hk⟩
          · intro k hk hkl
            by_cases hki : k = i
            · simp [Sig.upd, hki]
            · rw [hset, if_neg hki] at hkl
              simpa [Sig.upd, hki] using hσ k hk hkl
          · intro k hk
            have hki : k ≠ i := fun e => (htw k hk).2.1 (e ▸ hni)
            rw [hset, if_neg hki]
            simpa [Sig.upd, hki] using hτ k hk
        · rw [hsame.2, hw1]
          by_cases hit : i ∈ tw
          · refine .inl (hc1.at hsame.1 (by rw [hAi.size, hA.size]) hSw (fun hit => (hτ i hit).2 hi2) _ _ fun w'' hSu => next (σ.upd i v) v w'' (by rw [hF, if_neg hni]; exact hDk i o v hin hni hol hv) ?_ ?_ ?_ (by rw [trk, if_pos hit] at hSu; exact hSu))
            · have hne : ∀ k, (k < n ∧ listed.getD k true = true) → F (σ.upd i v) k = F σ k := fun k hk => by
                have hki : k ≠ i := fun e => by subst e; rw [hi2] at hk; cases hk.2
                rw [hF, hF]
                simp [Sig.upd, hki]
              exact ⟨hA.defers, hA.size, fun k t u' hk hD' => hA.wrote k t u' hk (by rw [← hne k hk]; exact hD'), fun t ht => hA.kept t fun k u' hk => by rw [← hne k hk]; exact ht k u' hk⟩
            · intro k hk hkl
              by_cases hki : k = i
              · simp [Sig.upd, hki]
              · rw [hset, if_neg hki] at hkl
                simpa [Sig.upd, hki] using hσ k hk hkl
            · intro k hk
              rw [hset]
              by_cases hki : k = i
              · simp [Sig.upd, hki]
              · rw [if_neg hki]
                simpa [Sig.upd, hki] using hτ k hk
          · exact .inl (hc1.at hsame.1 (by rw [hAi.size, hA.size]) hSw (fun hit => (hτ i hit).2 hi2) _ _ fun w'' hSu => next σ v w'' (by rw [hF, if_neg hni]; exact hDk i o v hin hni hol hv) hA (hσset hni) (hτset hit) (by rw [trk, if_neg hit] at hSu; exact hSu))
        · rw [hsame.2, hw1]
          have hit : i ∉ tw := fun hit => by
            have := (htw i hit).2.2.2 o hol
            simp [Region.wanted, this] at hw1
          exact next σ undef w' (by rw [hF, if_neg hni]; exact hDk i o undef hin hni hol hv) hA (hσset hni) (hτset hit) hSw
  refine main _ listed0 a0 w Sig.no hs0 rfl (fun j hnj hj => ?_) (fun k o hk hkt ho e he hb => ?_) (fun k hk hkt => ?_) (fun k hk => ?_) hp0 ?_ hS
  · cases hjj : listed0.getD j true with
    | false => rfl
    | true =>
      have := (g.preAny j (hl0 j hj hjj)).1
      omega
  · obtain ⟨_, _, o', ho', _, haf⟩ := g.preAny k (hl0 k hk hkt)
    obtain rfl : o' = o := by simpa [ho] using ho'.symm
    have := g.low k o' (by simpa using ho) e he hb
    rw [← getD_tf (by omega)]
    exact hp0 _ (haf e he hb)
  · exact absurd hk (g.preAny k (hl0 k (by have := g.newLt k hk; omega) hkt)).2.1
  · exact ⟨fun hkt => absurd (hl0 k (by have := (htw k hk).1; omega) hkt) (htw k hk).2.2.1, fun _ => rfl⟩
  · have step : ∀ (r done : List Nat) (a1 : Act), preOk l.toArray n nw done r = true → PreRun P l r a1 a0 → Agree (F Sig.no) (fun k => k ∈ done) a a1 →
        (∀ k ∈ done, ∀ o, l[k]? = some o → ∀ e ∈ o.after, Region.binds .any e = true → e.on ∈ done) → Agree (F Sig.no) (fun k => k ∈ r ∨ k ∈ done) a a0 := by
      intro r
      induction r with
      | nil =>
        intro done a1 _ hr hA _
        obtain rfl : a0 = a1 := hr
        simpa using hA
      | cons p r ih =>
        intro done a1 hpo hr hA hcl
        obtain ⟨hpn, hpw, hpd, ⟨o, hop, hgd, haf⟩, hpo'⟩ := preOk_cons hpo
        have hop : l[p]? = some o := by simpa using hop
        obtain ⟨o', v, ho', hrun, hr'⟩ := hr
        obtain rfl : o' = o := by simpa [hop] using ho'.symm
        obtain ⟨u, hu, hcase⟩ := hk p o' (by simp [hpn, hop])
        have hAi := agree_frames D huniq a p (by omega)
        have hsame := same_op (ops := l.toArray) (o := o') (a := a1) (a' := frames (D.take p) a) (g.noSel p o' (by simpa using hop)) (by
          intro t htl
          by_cases hts : t < a.tmps.size
          · by_cases hw : ∃ (k : Nat) (u : Value), F Sig.no k = some (some t, u)
            · obtain ⟨k, x, hkx⟩ := hw
              obtain ⟨hkn, ok, hok', hdk⟩ := hFd Sig.no k _ x hkx
              have hnk : k ∉ nw := fun hnk => g.newApart k hnk ok t (by simpa using hok') hdk p o' hpn (by simpa using hop) htl
              have hDu : D[k]? = some (some t, x) := by rw [hF, if_neg hnk] at hkx; exact hkx
              have hkp : k ≠ p := fun e => by
                subst e
                rw [hop] at hok'
                cases hok'
                exact g.own k o' t hkn (by simpa using hop) hdk htl
              rcases (g.pair k p ok o' t hkn hpn hkp (by simpa using hok') (by simpa using hop) hdk).2 with h1 | ⟨hlt, hwt⟩ | ⟨hlt, hwt⟩
              · exact absurd htl h1
              · obtain ⟨e, he, hb, heq⟩ := waits_spec hwt
                have hkd : k ∈ done := heq ▸ haf e he hb
                rw [hA.wrote k t x hkd hkx hts, hAi.wrote k t x hlt hDu hts]
              · obtain ⟨e, he, hb, heq⟩ := waits_spec hwt
                have hkd : k ∉ done := fun hkd => hpd (heq ▸ hcl k hkd ok hok' e he hb)
                rw [hA.kept t fun k' u' hk' hD' => ?_, hAi.kept t fun k' u' hk' hD' => ?_]
                · by_cases hkk : k' = k
                  · subst hkk; omega
                  · exact huniq k k' t u' x hkk hD' hDu
                · by_cases hkk : k' = k
                  · subst hkk; exact hkd hk'
                  · exact hFu Sig.no k k' t u' x hkk hD' hkx
            · rw [hA.kept t fun k v _ hkv => hw ⟨k, v, hkv⟩, hAi.kept t fun k v _ hkv => ?_]
              obtain ⟨_, hnk, _⟩ := hDd k t v hkv
              exact hw ⟨k, v, by rw [hF, if_neg hnk]; exact hkv⟩
          · rw [Array.getElem?_eq_none (show (frames (D.take p) a).tmps.size ≤ t from by rw [hAi.size]; exact Nat.le_of_not_lt hts), Array.getElem?_eq_none (show a1.tmps.size ≤ t from by rw [hA.size]; exact Nat.le_of_not_lt hts)])
        have hput : a1.put o'.dst v = a1.put o'.dst u := by
          rcases hcase with ⟨hni, _⟩ | ⟨_, _, hc1⟩ | ⟨_, hw1, _⟩
          · exact absurd hni hpw
          · have h1 := hc1.at (a' := a1) hsame.1.symm (by rw [hAi.size, hA.size]) hS (fun _ => rfl) (fun a2 _ => a2 = a1.put o'.dst u) (fun _ _ _ => False) (fun _ _ => rfl)
            unfold Oper.wp at h1
            rw [hrun w] at h1
            simpa only [Oper.upon] using h1
          · exfalso
            simp [Region.wanted, hgd] at hw1
        rw [hput] at hr'
        have hFp : F Sig.no p = some (o'.dst, u) := by rw [hF, if_neg hpw]; exact hDk p o' u hpn hpw hop hu
        have hA' := hA.put (j := p) hFp (fun k t u' hki hD' e => hFu Sig.no p k t u' u hki hD' (by rw [hFp, e]))
        have hA2 : Agree (F Sig.no) (fun k => k ∈ p :: done) a (a1.put o'.dst u) :=
          ⟨hA'.defers, hA'.size, fun k t x hk => hA'.wrote k t x (by
            rcases List.mem_cons.1 hk with h | h
            · exact .inr h
            · exact .inl h), fun t ht => hA'.kept t fun k x hk => ht k x (by
            rcases hk with h | h
            · exact List.mem_cons_of_mem _ h
            · exact h ▸ List.mem_cons_self ..)⟩
        have := ih (p :: done) _ hpo' hr' hA2 (fun k hk o ho e he hb => by
          rcases List.mem_cons.1 hk with rfl | hk
          · rw [hop] at ho
            cases ho
            exact List.mem_cons_of_mem _ (haf e he hb)
          · exact List.mem_cons_of_mem _ (hcl k hk o ho e he hb))
        refine ⟨this.defers, this.size, fun k t x hk => this.wrote k t x ?_, fun t ht => this.kept t fun k x hk => ht k x ?_⟩
        · rcases hk with hk | hk
          · rcases List.mem_cons.1 hk with rfl | hk
            · exact .inr (List.mem_cons_self ..)
            · exact .inl hk
          · exact .inr (List.mem_cons_of_mem _ hk)
        · rcases hk with hk | hk
          · exact .inl (List.mem_cons_of_mem _ hk)
          · rcases List.mem_cons.1 hk with rfl | hk
            · exact .inl (List.mem_cons_self ..)
            · exact .inr hk
    have h0 : Agree (F Sig.no) (fun k => k ∈ ([] : List Nat)) a a := ⟨rfl, rfl, fun k t v hk _ _ => (by cases hk), fun t _ => rfl⟩
    have := step pre [] a g.preOrd ha0 h0 (fun k hk => by cases hk)
    refine ⟨this.defers, this.size, fun k t x hk => this.wrote k t x (.inl (hl0 k (by omega) hk.2)), fun t ht => this.kept t fun k x hk => ht k x ?_⟩
    rcases hk with hk | hk
    · exact ⟨(g.preAny k hk).1, hp0 k hk⟩
    · cases hk

theorem wp_region_new {id : Nat} {Q : Exit → Act → World → Prop} {a : Act} {w : World} {l : List Oper} (S : Sig → World → Prop) (n : Nat) (nw tw : List Nat) (htw : ∀ k ∈ tw, k < n ∧ k ∉ nw ∧ ∀ o, l[k]? = some o → o.guard = none) (hm : P.follows .mixedOrders = true) (hok : calmOk l.toArray n nw = true) (hS : S Sig.no w.drew)
    (h : calm P l.toArray S nw tw (fun a' => ∀ σ w', (∀ k ∈ nw, (σ k).isSome = true) → (∀ k ∈ tw, (σ k).isSome = true) → S σ w' → wpList P l.toArray Q (l.drop n) (putNew l nw σ a') w') 0 (l.take n) a) : (Code.region id l.toArray true).wp P Q a w := by
  refine wp_region_any hm ?_
  have hl := left_none l.toArray.size
  have := wpAny_new (a0 := a) S n nw tw [] (fun k hk => ⟨(htw k hk).1, (htw k hk).2.1, by simp, (htw k hk).2.2⟩) hok hS h (Array.replicate l.toArray.size false) (by simp) (fun k hk hkt => by simp [hk] at hkt) (fun p hp => by cases hp) rfl
  rw [hl] at this
  exact this


theorem calm_value {R : Act → Prop} {a : Act} {o : Oper} {rest : List Oper} {i : Nat} {v : Value} (hi : i ∉ nw) (ht : i ∉ tw) (hw : Region.wanted o (yielded ops a.tmps) = true) (h1 : ∀ σ w, S σ w → (execOp a.eval o).run P w = .ok (.value v) w) (h : calm P ops S nw tw R (i + 1) rest (a.put o.dst v)) : calm P ops S nw tw R i (o :: rest) a :=
  calm_step v hi hw (fun σ w hS _ K Q hK => by unfold Oper.wp; rw [h1 σ w hS]; exact hK w (by rw [trk, if_neg ht]; exact hS)) h
end
end Go.Proofs.Ytpbodonmiepilaa.Trk
/- A call that changes what there is, in a region that draws its order. -/
namespace Go.Proofs.Ytpbodonmiepilaa

section
variable {P : Program} {ops : Array Oper} {S : Sig → World → Prop} {nw tw : List Nat} {R : Act → Prop} {a : Act} {o : Oper} {rest : List Oper} {i : Nat}
end
section
variable {P : Program} {ops : Array Oper} {S : Sig → World → Prop} {nw : List Nat} {R : Act → Prop} {a : Act} {o : Oper} {rest : List Oper} {i : Nat}
end
end Go.Proofs.Ytpbodonmiepilaa
/- inflate, the document's: the walks of take, table, sym. -/
namespace Go.Proofs.Ytpbodonmiepilaa
open Go.RowKit

/-- What a symbol's taking yields. -/
def SymP (w0 : World) (ps : List Piece) (g rg : Nat) (s : ByteArray) (n : Nat) (l out : List Int) (most e : Int) (r : Value) (w' : World) : Prop :=
  ∃ x n' e', r = .int .i64 x ∧ 0 ≤ x ∧ x ≤ 1000000 ∧ n' ≤ 8 * s.size ∧ (e ≠ 0 → e' = e ∧ x = 0) ∧ (e = 0 → GotR (symG (textBits s) l n) x n' e') ∧ Own w0 w' (Sta g rg s n' out most e' :: ps)
/-- A code that is read: lengths, and codes. -/
def TabR (w0 : World) (ps : List Piece) (v u : Value) (m : Nat) (l : List Int) : Prop := ∀ w', Own w0 w' ps → Rd w' 1 v m (nums l) ∧ Rd w' 1 u m (nums (codesF l))
end Go.Proofs.Ytpbodonmiepilaa
/- inflate, the document's: the walk of stored. -/
namespace Go.Proofs.Ytpbodonmiepilaa
open Go.RowKit

/-- What a block of bytes yields. -/
def StoP (w0 : World) (ps : List Piece) (g rg : Nat) (s : ByteArray) (G : Got (List Int)) (most : Int) (w' : World) : Prop :=
  ∃ out' n' e', n' ≤ 8 * s.size ∧ (out'.length : Int) ≤ most ∧ GotR G out' n' e' ∧ Own w0 w' (Sta g rg s n' out' most e' :: ps)
end Go.Proofs.Ytpbodonmiepilaa
/- inflate, the document's: the walk of lengths. -/
namespace Go.Proofs.Ytpbodonmiepilaa
open Go.RowKit

/-- What a symbol leads to. -/
def LNext (bs : List Bool) (G : Got (List Int)) (T : List Int) (N : Nat) (l : List Int) (n1 : Nat) (c e1 : Int) : Prop :=
    (e1 ≠ 0 → LSt bs G T N l n1 e1) ∧ (e1 = 0 → (c < 16 → LSt bs G T N (l ++ [c]) n1 0) ∧ (c = 16 → l.length = 0 → ∀ v m, GotR G v m 2) ∧
      (c = 16 → l.length ≠ 0 → G = (takeG bs 2 n1).bind fun v n2 => if N < l.length + (3 + v.toNat) then .bad 2 else lengthsG bs T N (l ++ List.replicate (3 + v.toNat) (l.getD (l.length - 1) 0)) n2) ∧
      (c = 17 → G = (takeG bs 3 n1).bind fun v n2 => if N < l.length + (3 + v.toNat) then .bad 2 else lengthsG bs T N (l ++ List.replicate (3 + v.toNat) 0) n2) ∧
      (17 < c → G = (takeG bs 7 n1).bind fun v n2 => if N < l.length + (11 + v.toNat) then .bad 2 else lengthsG bs T N (l ++ List.replicate (11 + v.toNat) 0) n2))
/-- Where lengths stand, if there was no fault ahead. -/
def LInv (bs : List Bool) (G : Got (List Int)) (T : List Int) (N : Nat) (e : Int) (l : List Int) (n1 : Nat) (e1 : Int) : Prop := (e ≠ 0 → e1 = e) ∧ (e = 0 → LSt bs G T N l n1 e1)
/-- What lengths leaves. -/
def RLenP (w0 : World) (ps : List Piece) (g rg : Nat) (s : ByteArray) (n : Nat) (T out : List Int) (most e : Int) (N : Nat) (r : Value) (w' : World) : Prop :=
  ∃ l n' e', n' ≤ 8 * s.size ∧ l.length ≤ N ∧ (e' = 0 → l.length = N) ∧ (e ≠ 0 → e' = e) ∧ (e = 0 → GotR (lengthsG (textBits s) T N [] n) l n' e') ∧ Own w0 w' (slc 3 1 r l.length (nums l) :: Sta g rg s n' out most e' :: ps)

end Go.Proofs.Ytpbodonmiepilaa
/- inflate, the document's: the walk of told. -/
namespace Go.Proofs.Ytpbodonmiepilaa
open Go.RowKit

def ordL : List Int := [16, 17, 18, 0, 8, 7, 9, 6, 10, 5, 11, 4, 12, 3, 13, 2, 14, 1, 15]
/-- A taking, its values told. -/
def rkV (s : ByteArray) (n k : Nat) (e : Int) : Int := if e = 0 then tkV s n k else 0
def rkN (s : ByteArray) (n k : Nat) (e : Int) : Nat := if e = 0 then tkN s n k else n
def rkE (s : ByteArray) (n k : Nat) (e : Int) : Int := if e = 0 then tkE s n k 0 else e
/-- What told leaves. -/
def RTolP (w0 : World) (ps : List Piece) (g rg : Nat) (s : ByteArray) (out : List Int) (most : Int) (G : Got (List Int × List Int)) (r : Value) (w' : World) : Prop :=
  ∃ (v u : Value) (LD : List Int × List Int) (n' : Nat) (e' : Int), r = .tuple #[v, u] ∧ n' ≤ 8 * s.size ∧ GotR G LD n' e' ∧ (e' ≠ 0 → Own w0 w' (Sta g rg s n' out most e' :: ps)) ∧
    (e' = 0 → terrF LD.1 = 0 ∧ terrF LD.2 = 0 ∧ ∃ q : Piece, Own w0 w' (Sta g rg s n' out most e' :: q :: ps) ∧ ∀ w2 qs, Own w0 w2 (q :: qs) → Rd w2 1 v LD.1.length (nums LD.1) ∧ Rd w2 1 u LD.2.length (nums LD.2))
end Go.Proofs.Ytpbodonmiepilaa
/- flate: the document's Lens, Dists. -/
namespace Go.Proofs.Ytpbodonmiepilaa
open Go.RowKit

end Go.Proofs.Ytpbodonmiepilaa
/- inflate, the document's: the walk of tokens. -/
namespace Go.Proofs.Ytpbodonmiepilaa
open Go.RowKit

def RTokP (w0 : World) (ps : List Piece) (g rg : Nat) (s : ByteArray) (most : Int) (last : Bool) (st0 : Inf) (w' : World) : Prop :=
  ∃ out' n' e', (out'.length : Int) ≤ most ∧ n' ≤ 8 * s.size ∧ TokEnd (textBits s) most last st0 out' n' e' ∧ Own w0 w' (Sta g rg s n' out' most e' :: ps)
end Go.Proofs.Ytpbodonmiepilaa
/- flate: the walk of the document's fixed codes. -/
namespace Go.Proofs.Ytpbodonmiepilaa
open Go.RowKit

end Go.Proofs.Ytpbodonmiepilaa
/- inflate, the document's: the walks of Go, Inflate. -/
namespace Go.Proofs.Ytpbodonmiepilaa
open Go.RowKit

/-- What Go leaves. -/
def RGoP (w : World) (s : ByteArray) (B : List Bool) (m : Int) (r : Value) (w' : World) : Prop :=
  ∃ (g rg n : Nat) (out : List Int) (e : Int), r = .pointer (some ⟨g, 0, none⟩) ∧ n ≤ 8 * s.size ∧ (out.length : Int) ≤ m ∧ (e ≠ 0 → Faults B m Inf.init e) ∧ (e = 0 → TokEnd B m true Inf.init out n 0) ∧ Own w w' [Sta g rg s n out m e]
end Go.Proofs.Ytpbodonmiepilaa
/- split: the walk of SplitWith. -/
namespace Go.Proofs.Ytpbodonmiepilaa
open Go.RowKit

/-- The document's error. -/
def wantF (right falls : Bool) (f : Int) : Int := if !right || (f == 0 && falls) then 1 else f
def rightF (N : Nat) (cs ks : List Int) : Bool := decide (0 < cs.length) && (decide (cs.length = ks.length) && decide (cs.getD (cs.length - 1) 0 = N))
def resE : Res → Int
  | .err e => e
  | .ok _ => 0
def resT : Res → ByteArray
  | .err _ => ⟨#[]⟩
  | .ok out => strOfNums out
/-- What With answers, said as the law says it. -/
structure WithOk (T : List Tok) (cs ks : List Int) (t : ByteArray) (e : Int) : Prop where
  val : withV T cs ks = .tuple #[.string t, .int .i64 e]
  err : e = wantF (rightF T.length cs ks) (wfalls T.length (cs.zip ks) 0) (resE (exp 2147483648 T []))
  none : e ≠ 0 → t = ⟨#[]⟩
  some : e = 0 → t.size ≤ 1000000 ∧ (resT (exp 2147483648 T [])).size ≤ 1000000 ∧ ∀ u n g, InfRes (textBits t) (max ((resT (exp 2147483648 T [])).size : Int) 0) u n g → u = resT (exp 2147483648 T []) ∧ n = t.size ∧ g = 0
end Go.Proofs.Ytpbodonmiepilaa
/- split: the walk of Pack. -/
namespace Go.Proofs.Ytpbodonmiepilaa
open Go.RowKit

/-- What Pack answers. -/
def PackR (s : ByteArray) (v : Value) : Prop := ∃ C t, CutsIs (parse s).length C ∧ withV (parse s) (atT (parse s) C) (ksT (parse s) C) = .tuple #[.string t, .int .i64 0] ∧ t.size ≤ 1000000 ∧ (∀ u n g, InfRes (textBits t) s.size u n g → u = s ∧ n = t.size ∧ g = 0) ∧ v = .string (if (packF s).size ≤ t.size then packF s else t)
end Go.Proofs.Ytpbodonmiepilaa
/- split: the walk of SplitBack. -/
namespace Go.Proofs.Ytpbodonmiepilaa
open Go.RowKit

def cutP (s : ByteArray) : ByteArray := if 1500 < s.size then s.extract 0 1500 else s
theorem cutP_size (s : ByteArray) : (cutP s).size ≤ 1500 := by
  unfold cutP
  split
  · rw [ByteArray.size_extract]; omega
  · omega
theorem cut47_any (s : ByteArray) (w : World) : Calls Try.prog 10 #[.string s] w (Ret fun r w' => r = .string (cutP s) ∧ Own w w' []) := by
  have H := Own.start w
  obtain ⟨T, hT⟩ : ∃ T, Hid (cutP s = T) := ⟨_, rfl⟩
  rw [hT.out]
  obtain ⟨N, hN⟩ : ∃ N, s.size = N := ⟨_, rfl⟩
  by_cases h : 1500 < N
  · have hI : (1500 : Int) < (N : Int) := by omega
    have hc : (1500 : Int) ≤ (N : Int) := by omega
    have hs : Hid (s.extract 0 1500 = T) := Lib.hid (by rw [← hT.out]; unfold cutP; rw [if_pos (by omega)])
    go_enter Try.func10, Try.ntmps10
    go_wp2_with fail
    go_ret
    exact ⟨_, rfl, by first | (rw [← hs.out]; rfl) | (rw [hs.out]), H⟩
  · have hI : ¬ (1500 : Int) < (N : Int) := by omega
    have hs : Hid (s = T) := Lib.hid (by rw [← hT.out]; unfold cutP; rw [if_neg (by omega)])
    go_enter Try.func10, Try.ntmps10
    go_wp2_with fail
    go_ret
    exact ⟨_, rfl, by rw [← hs.out]; rfl, H⟩
end Go.Proofs.Ytpbodonmiepilaa
/- split: the walks of the law's long and among. -/
namespace Go.Proofs.Ytpbodonmiepilaa
open Go.RowKit

set_option maxRecDepth 100000 in
set_option maxHeartbeats 6400000 in
theorem long_any {w : World} {tv cv kv : Value} {T : List Tok} {cs ks : List Int} (ht : Rd w 3 tv T.length (rows tcell T)) (hc : Rd w 1 cv cs.length (nums cs)) (hk : Rd w 1 kv ks.length (nums ks)) (hok : ∀ t ∈ T, TokOk t) (hT : T.length ≤ 3000) (hcl : cs.length ≤ 100) (heq : cs.length = ks.length) (hwf : wfalls T.length (cs.zip ks) 0 = false) :
    Calls Try.prog 13 #[tv, cv, kv] w (Ret fun r w' => r = .int .i64 (lonF T (cs.zip ks) 0 : Nat) ∧ Own w w' []) := by
  obtain ⟨ta, tc, rfl, htc1, htc2⟩ := ht.shape
  obtain ⟨ca, cc, rfl, hcc1, hcc2⟩ := hc.shape
  obtain ⟨ka, kc, rfl, hkc1, hkc2⟩ := hk.shape
  obtain ⟨R, hR⟩ : ∃ v, Hid (lonF T (cs.zip ks) 0 = v) := ⟨_, rfl⟩
  have hcz : Hid (([] : List Bool).length + lonF T ((cs.zip ks).drop 0) 0 = R) := Lib.hid (by rw [← hR.out]; simp)
  have hfz : Hid (wfalls T.length ((cs.zip ks).drop 0) 0 = false) := Lib.hid hwf
  rw [hR.out]
  obtain ⟨N, hN⟩ : ∃ N, Hid (T.length = N) := ⟨_, rfl⟩
  obtain ⟨M, hLc⟩ : ∃ N, Hid (cs.length = N) := ⟨_, rfl⟩
  have hLk : Hid (ks.length = M) := Lib.hid (by rw [← hLc.out, heq])
  rw [hN.out] at ht htc1 hT hfz ⊢
  rw [hLc.out] at hc hcc1 hcl ⊢
  rw [hLk.out] at hk hkc1 ⊢
  have HOK := Lib.hid hok
  have HC := Lib.hid hc
  have HK := Lib.hid hk
  have HR : Hid (∀ ps : List Piece, Reads w ps 3 (.slice ta N tc) N (rows tcell T)) := Lib.hid fun ps w' h => ht.old h
  clear ht hc hk hR hok heq hwf
  have H := Own.start w
  have H2 : Own w (w.alloc (.cells #[.slice none 0 0, .int .i64 0] 56)) [Wtr w.heap.size []] := H.newWtr
  clear H
  go_enter Try.func13, Try.ntmps13
  go_upto_region 2 with (fail)
  generalize w.alloc _ = w2 at *
  generalize w.heap.size = g at *
  go_wp2_with fail
  go_loopw [8, 9] (fun v8 v9 wx => ∃ (i fr : Nat) (Bs : List Bool), v8 = .int .i64 fr ∧ v9 = .int .i64 i ∧ i ≤ M ∧ fr ≤ N ∧ Bs.length ≤ i * 200000 ∧ Hid (wfalls N ((cs.zip ks).drop i) fr = false) ∧ Hid (Bs.length + lonF T ((cs.zip ks).drop i) fr = R) ∧ Own w wx [Wtr g Bs]) (fun _ v9 _ => M - (intOf v9).toNat)
  case atStart => exact ⟨0, 0, [], rfl, rfl, by omega, by omega, by simp, hfz, hcz, H2⟩
  case round =>
    clear H2 hcz hfz
    obtain ⟨i, fr, Bs, rfl, rfl, hi, hfr, hbl, hf, hst, H⟩ := hrel
    by_cases hiM : i < M
    · have hiI : (i : Int) < (M : Int) := by omega
      obtain ⟨bc, oc, rfl, cc1⟩ := rd_at HC.out H hiM
      obtain ⟨b2, o2, rfl, cc2⟩ := rd_at HK.out H hiM
      have hzd := zip_drop (cs := cs) (ks := ks) (i := i) (by rw [hLc.out]; exact hiM) (by rw [hLk.out]; exact hiM)
      have hst2 := hst.out
      have hf2 := hf.out
      rw [hzd, lonF] at hst2
      rw [hzd, wfalls, Bool.or_eq_false_iff] at hf2
      obtain ⟨hbad, hf2⟩ := hf2
      have HC2 : Hid (∀ w' (ps : List Piece), Own w w' ps → w'.cell? ⟨bc, oc + i, none⟩ = some (.int .i64 (cs.getD i 0)) ∧ w'.cell? ⟨b2, o2 + i, none⟩ = some (.int .i64 (ks.getD i 0))) := Lib.hid fun w' ps h => by
        obtain ⟨_, _, e1, h1⟩ := rd_at HC.out h hiM
        obtain ⟨_, _, e2, h2⟩ := rd_at HK.out h hiM
        cases e1; cases e2
        exact ⟨h1, h2⟩
      generalize cs.getD i 0 = x at *
      generalize ks.getD i 0 = kd at *
      clear hst hzd hf
      obtain ⟨g1, g2, g3, g4⟩ := wbad_no hbad
      obtain ⟨c, rfl⟩ : ∃ n : Nat, x = n := ⟨x.toNat, by omega⟩
      rw [Int.toNat_natCast] at hst2
      replace hf2 := Lib.hid hf2
      have hfc : fr ≤ c := by omega
      have hcN : c ≤ N := by omega
      obtain ⟨lb, hlb⟩ : ∃ b, ((i : Int) == (M : Int) - 1) = b := ⟨_, rfl⟩
      have hw1 : IntKind.i64.wrap ((M : Int) - 1) = (M : Int) - 1 := IntWalk.i64_in _ ⟨by omega, by omega⟩
      obtain ⟨tv, htv⟩ : ∃ tv, Hid (sliced ta fr c tc 3 = tv) := ⟨_, rfl⟩
      have hrd := (HR.out []).sliced hfc hcN
      rw [htv.out] at hrd
      obtain ⟨Q, hQ⟩ : ∃ Q, Hid (segT T fr c = Q) := ⟨_, rfl⟩
      have hQl : Q.length = c - fr := by rw [← hQ.out, segT_length (by rw [hN.out]; exact hcN)]
      have hQo : ∀ t ∈ Q, TokOk t := by rw [← hQ.out]; exact segT_ok HOK.out
      have hQs := blockB_size hQo (by omega) kd lb
      have hQe : (T.take c).drop fr = Q := hQ.out
      rw [hQe, ← hQl] at hrd
      have kb := fun w1 (h : Own w w1 [Wtr g Bs]) => block_any kd lb hrd hQo (by omega) h (by omega)
      have KB := Lib.hid kb
      rw [hQ.out, ← blockB_last Q kd lb] at hst2
      obtain ⟨B2, hB2⟩ : ∃ B2, Hid (Bs ++ blockB Q kd lb = B2) := ⟨_, rfl⟩
      have hB2e : B2.length = Bs.length + (blockB Q kd lb).length := by rw [← hB2.out, List.length_append]
      have hB2l : B2.length ≤ (i + 1) * 200000 := by omega
      rw [← Nat.add_assoc, ← hB2e] at hst2
      replace hst2 := Lib.hid hst2
      have hmc : (c : Int) ≤ (tc : Int) := by omega
      have hkmI : (fr : Int) ≤ (c : Int) := by omega
      have n1 : ¬ (c : Int) < (fr : Int) := by omega
      have n2 : ¬ (N : Int) < (c : Int) := by omega
      clear kb hrd hQo hQs hbad hQe hQ hB2e hQl
      go_upto_region 8 with (fail)
      clear cc1 cc2
      refine wp_region_calm (fun w1 => Own w w1 [Wtr g Bs]) 16 (by kernel_rfl) (by kernel_rfl) H.drew ?_
      simp only [List.take_succ_cons, List.take_zero, List.drop_succ_cons, List.drop_zero]
      iterate 6
        refine calm_value (v := ?_) (by decide) rfl (fun σ w1 hS => ?_) ?_
        rotate_left
        · obtain ⟨c0, c1⟩ := HC2.out _ _ hS
          first | (go_simp; rfl) | rfl
        simp only [Act.put, List.setIfInBounds_toArray, List.set_cons_zero, List.set_cons_succ]
      refine calm_value (v := tv) (by decide) rfl (fun σ w1 hS => ?_) ?_
      · rw [← htv.out]
        go_simp
      simp only [Act.put, List.setIfInBounds_toArray, List.set_cons_zero, List.set_cons_succ]
      repeat
        first
        | (refine calm_value (v := ?_) (by decide) rfl (fun σ w1 hS => ?_) ?_
           rotate_left
           · obtain ⟨c0, c1⟩ := HC2.out _ _ hS
             first | (go_simp; rfl) | rfl
           simp only [Act.put, List.setIfInBounds_toArray, List.set_cons_zero, List.set_cons_succ])
        | (refine calm_skip (by decide) rfl ?_
           simp only [Act.put, List.setIfInBounds_toArray, List.set_cons_zero, List.set_cons_succ])
      refine calm_nil ?_
      intro wd HD
      clear H
      go_wp2_with fail
      refine (KB.out _ HD).mono ?_
      rintro e w4 ⟨_, rfl, H⟩
      rw [hB2.out] at H
      obtain ⟨c0, c1⟩ := HC2.out _ _ H
      clear HD KB hB2 hlb
      go_wp2
      go_roundw
      case rel => exact ⟨i + 1, c, B2, rfl, by go_num, by omega, hcN, hB2l, hf2, hst2, H⟩
      case measure => simp [intOf]; omega
    · obtain rfl : i = M := by omega
      have hiI : ¬ (i : Int) < (i : Int) := by omega
      have hnil : (cs.zip ks).drop i = [] := List.drop_eq_nil_of_le (by rw [List.length_zip, hLc.out, hLk.out]; omega)
      have hst2 := hst.out
      rw [hnil, lonF, Nat.add_zero] at hst2
      have LA := Lib.hid (len_any H)
      rw [hst2] at LA
      clear hst hst2 hnil hf
      go_wp2_with fail
      refine LA.out.mono ?_
      rintro e w5 ⟨rfl, rfl⟩
      go_wp2
      go_ret
      exact ⟨_, rfl, rfl, H.bare⟩
set_option maxHeartbeats 1600000 in
theorem among_any {w0 w : World} {ps : List Piece} {v : Value} {xs : List Int} {j : Nat} (hx : Rd w0 1 v xs.length (nums xs)) (H : Own w0 w ps) (hj : j < xs.length) (hl : xs.length ≤ 1000000) :
    Calls Try.prog 12 #[v, .int .i64 (xs.getD j 0)] w (Ret fun r w' => r = .bool true ∧ w' = w) := by
  obtain ⟨ca, cc, rfl, hcc1, hcc2⟩ := hx.shape
  obtain ⟨M, hM⟩ : ∃ N, Hid (xs.length = N) := ⟨_, rfl⟩
  obtain ⟨x, hxj⟩ : ∃ N, Hid (xs.getD j 0 = N) := ⟨_, rfl⟩
  rw [hM.out] at hx hj hl hcc1 ⊢
  rw [hxj.out]
  replace hx := Lib.hid hx
  go_enter Try.func12, Try.ntmps12
  go_wp2_with fail
  go_loopw [5] (fun v5 wx => ∃ i : Nat, v5 = .int .i64 i ∧ i ≤ j ∧ wx = w) (fun v5 _ => M - (intOf v5).toNat)
  case atStart => exact ⟨0, rfl, by omega, rfl⟩
  case round =>
    obtain ⟨i, rfl, hi, rfl⟩ := hrel
    have hiI : (i : Int) < (M : Int) := by omega
    obtain ⟨bc, oc, rfl, cc1⟩ := rd_at hx.out H (i := i) (by omega)
    by_cases he : xs.getD i 0 = x
    · rw [he] at cc1
      have hb : (x == x) = true := by simp
      clear he
      go_wp2
      go_ret
      exact ⟨_, rfl, rfl, rfl⟩
    · have hij : i < j := by
        rcases Nat.lt_or_ge i j with h | h
        · exact h
        · obtain rfl : i = j := by omega
          exact absurd hxj.out he
      have hb : (xs.getD i 0 == x) = false := by simpa using he
      generalize xs.getD i 0 = y at *
      clear he
      go_wp2
      go_roundw
      case rel => exact ⟨i + 1, by go_num, by omega, by first | rfl | trivial⟩
      case measure => simp [intOf]; omega
end Go.Proofs.Ytpbodonmiepilaa
/- lz: the walk of the document's common. -/
namespace Go.Proofs.Ytpbodonmiepilaa
open Go.RowKit

set_option maxRecDepth 100000 in
set_option maxHeartbeats 1600000 in
theorem common_any {w0 w : World} {ps : List Piece} {s : ByteArray} {x y : Nat} (H : Own w0 w ps) (hxy : x ≤ y) (hy : y ≤ s.size) (hs : s.size ≤ 1000000) :
    Calls Try.prog 20 #[.string s, .int .i64 x, .int .i64 y] w (Ret fun r w' => r = .int .i64 (comm s x y) ∧ Own w0 w' ps) := by
  go_enter Try.func20, Try.ntmps20
  go_wp2_with fail
  go_loopw [7] (fun s7 wr => ∃ n : Nat, s7 = .int .i64 n ∧ n ≤ 258 ∧ Hid (∀ j, j < n → y + j < s.size ∧ byt s (x + j) = byt s (y + j)) ∧ Own w0 wr ps) (fun s7 _ => 258 - (intOf s7).toNat)
  case atStart => exact ⟨0, by simp, by omega, Lib.hid (fun j hj => by omega), H⟩
  case round =>
    clear H
    obtain ⟨n, rfl, hn, hall, H⟩ := hrel
    by_cases h1 : n < 258
    · have h1I : (n : Int) < 258 := by omega
      obtain ⟨q, hq⟩ : ∃ q, Hid (y + n = q) := ⟨_, rfl⟩
      obtain ⟨p, hp⟩ : ∃ p, Hid (x + n = p) := ⟨_, rfl⟩
      have hqI : (y : Int) + (n : Int) = (q : Int) := by have := hq.out; omega
      have hpI : (x : Int) + (n : Int) = (p : Int) := by have := hp.out; omega
      have hqm : q ≤ 2000000 := by have := hq.out; omega
      have hpq : p ≤ q := by have := hq.out; have := hp.out; omega
      have hw1 : IntKind.i64.wrap (q : Int) = (q : Int) := IntWalk.i64_in _ ⟨by omega, by omega⟩
      have hw2 : IntKind.i64.wrap (p : Int) = (p : Int) := IntWalk.i64_in _ ⟨by omega, by omega⟩
      by_cases h2 : q < s.size
      · have h2I : (q : Int) < (s.size : Int) := by omega
        have h3 : p < s.size := by omega
        have e0 := byt_is h2
        have e1 := byt_is h3
        obtain ⟨t, ht⟩ : ∃ t, Hid (decide (byt s p = byt s q) = t) := ⟨_, rfl⟩
        have htI : (((byt s p).toNat : Int) == ((byt s q).toNat : Int)) = t := by
          rw [← ht.out]
          by_cases hb : byt s p = byt s q
          · simp [hb]
          · have : (byt s p).toNat ≠ (byt s q).toNat := fun h => hb (UInt8.toNat_inj.1 h)
            simp [hb]
            omega
        go_upto_region 2 with (fail)
        refine wp_region_calm (fun w1 => Own w0 w1 ps) 23 (by kernel_rfl) (by kernel_rfl) H.drew ?_
        simp only [List.take_succ_cons, List.take_zero, List.drop_succ_cons, List.drop_zero]
        repeat
          first
          | (refine calm_value (v := ?_) (by decide) rfl (fun σ w1 hS => ?_) ?_
             rotate_left
             · skip
               first | (go_simp; rfl) | rfl
             simp only [Act.put, List.setIfInBounds_toArray, List.set_cons_zero, List.set_cons_succ])
          | (refine calm_skip (by decide) rfl ?_
             simp only [Act.put, List.setIfInBounds_toArray, List.set_cons_zero, List.set_cons_succ])
        refine calm_nil ?_
        intro wd HD
        clear H
        cases t with
        | true =>
          have hb : byt s p = byt s q := by simpa using ht.out
          have hall' : Hid (∀ j, j < n + 1 → y + j < s.size ∧ byt s (x + j) = byt s (y + j)) := Lib.hid (by
            intro j hj
            by_cases hjn : j = n
            · subst hjn
              rw [hq.out, hp.out]
              exact ⟨h2, hb⟩
            · exact hall.out j (by omega))
          clear hb ht htI
          go_wp2
          go_roundw
          case rel => exact ⟨n + 1, by go_num, by omega, hall', HD⟩
          case measure => simp [intOf]; omega
        | false =>
          have hfin : Hid (comm s x y = n) := Lib.hid (comm_is (by omega) hall.out (.inr (by rw [hq.out, hp.out]; intro h; have := ht.out; simp at this; exact this h.2)))
          clear ht htI
          go_wp2
          go_ret
          exact ⟨_, rfl, by rw [hfin.out]; rfl, HD⟩
      · have h2I : ¬ (q : Int) < (s.size : Int) := by omega
        have hfin : Hid (comm s x y = n) := Lib.hid (comm_is (by omega) hall.out (.inr (by rw [hq.out]; intro h; exact h2 h.1)))
        go_upto_region 2 with (fail)
        refine wp_region_calm (fun w1 => Own w0 w1 ps) 23 (by kernel_rfl) (by kernel_rfl) H.drew ?_
        simp only [List.take_succ_cons, List.take_zero, List.drop_succ_cons, List.drop_zero]
        repeat
          first
          | (refine calm_value (v := ?_) (by decide) rfl (fun σ w1 hS => ?_) ?_
             rotate_left
             · skip
               first | (go_simp; rfl) | rfl
             simp only [Act.put, List.setIfInBounds_toArray, List.set_cons_zero, List.set_cons_succ])
          | (refine calm_skip (by decide) rfl ?_
             simp only [Act.put, List.setIfInBounds_toArray, List.set_cons_zero, List.set_cons_succ])
        refine calm_nil ?_
        intro wd HD
        clear H
        go_wp2
        go_ret
        exact ⟨_, rfl, by rw [hfin.out]; rfl, HD⟩
    · have h1I : ¬ (n : Int) < 258 := by omega
      have hfin : Hid (comm s x y = n) := Lib.hid (comm_is (by omega) hall.out (.inl (by omega)))
      go_upto_region 2 with (fail)
      refine wp_region_calm (fun w1 => Own w0 w1 ps) 23 (by kernel_rfl) (by kernel_rfl) H.drew ?_
      simp only [List.take_succ_cons, List.take_zero, List.drop_succ_cons, List.drop_zero]
      repeat
        first
        | (refine calm_value (v := ?_) (by decide) rfl (fun σ w1 hS => ?_) ?_
           rotate_left
           · skip
             first | (go_simp; rfl) | rfl
           simp only [Act.put, List.setIfInBounds_toArray, List.set_cons_zero, List.set_cons_succ])
        | (refine calm_skip (by decide) rfl ?_
           simp only [Act.put, List.setIfInBounds_toArray, List.set_cons_zero, List.set_cons_succ])
      refine calm_nil ?_
      intro wd HD
      clear H
      go_wp2
      go_ret
      exact ⟨_, rfl, by rw [hfin.out]; rfl, HD⟩
end Go.Proofs.Ytpbodonmiepilaa
/- lz: the walk of the document's Parse. -/
namespace Go.Proofs.Ytpbodonmiepilaa
open Go.RowKit Go.Maps

set_option maxRecDepth 100000 in
set_option maxHeartbeats 3200000 in
theorem refparse_any {w0 w : World} {ps : List Piece} {s : ByteArray} (H : Own w0 w ps) (hs : s.size ≤ 1000000) :
    Calls Try.prog 9 #[.string s] w (Ret fun v w' => Own w0 w' (slc 46 3 v (parse s).length (rows tcell (parse s)) :: ps)) := by
  obtain ⟨W, hW⟩ : ∃ W, Hid (parseN s s.size 0 = W) := ⟨_, rfl⟩
  have hp : Hid (parse s = W) := Lib.hid hW.out
  rw [hp.out]
  replace H := H.nil 46 3
  go_enter Try.func9, Try.ntmps9
  go_wp2_with fail
  go_loopw [3, 4] (fun s3 s4 wr => ∃ (i f : Nat) (l : List Tok), s4 = .int .i64 i ∧ i ≤ s.size ∧ s.size ≤ i + f ∧ Hid (l ++ parseN s f i = W) ∧ l.length ≤ i ∧ Own w0 wr (slc 46 3 s3 l.length (rows tcell l) :: ps)) (fun _ s4 _ => s.size - (intOf s4).toNat)
  case atStart => exact ⟨0, s.size, [], by simp, by omega, by omega, hW, by simp, H⟩
  case round =>
    clear H
    obtain ⟨i, f, l, rfl, hi, hf, hl, hll, H⟩ := hrel
    by_cases hlt : i < s.size
    · have hltI : (i : Int) < (s.size : Int) := by omega
      obtain ⟨f, rfl⟩ : ∃ f', f = f' + 1 := ⟨f - 1, by omega⟩
      have hpn : parseN s (f + 1) i = tokAt s i :: parseN s f (i + stepAt s i) := by rw [parseN, if_pos hlt]
      have hsl := stepAt_le hlt
      have hsp := stepAt_pos s i
      have hst : Hid (stepAt s i = if 3 ≤ (trim (best s i (min i 4096))).1 then (trim (best s i (min i 4096))).1 else 1) := Lib.hid rfl
      have htk : Hid (tokAt s i = if 3 ≤ (trim (best s i (min i 4096))).1 then ⟨(trim (best s i (min i 4096))).1, (trim (best s i (min i 4096))).2, 0⟩ else ⟨0, 0, (byt s i).toNat⟩) := Lib.hid rfl
      obtain ⟨m, hm⟩ : ∃ m, Hid (stepAt s i = m) := ⟨_, rfl⟩
      obtain ⟨t, ht⟩ : ∃ t, Hid (tokAt s i = t) := ⟨_, rfl⟩
      rw [hm.out] at hst hpn hsl hsp
      rw [ht.out] at htk hpn
      have hl2 : Hid ((l ++ [t]) ++ parseN s f (i + m) = W) := Lib.hid (by rw [← hl.out, hpn]; simp)
      clear hl hpn
      have e0 := byt_is hlt
      have hx8 := (byt s i).toNat_lt
      have hwx : wrap64 (((byt s i).toNat : Nat) : Int) = (((byt s i).toNat : Nat) : Int) := IntWalk.wrap64_in _ ⟨by omega, by omega⟩
      go_wp2_with fail
      go_loopw [5, 6, 7] (fun s5 s6 s7 wr => ∃ a b d : Nat, s5 = .int .i64 a ∧ s6 = .int .i64 b ∧ s7 = .int .i64 ((d + 1 : Nat) : Int) ∧ d ≤ min i 4096 ∧ Hid (best s i d = (a, b)) ∧ Own w0 wr (slc 46 3 u3 l.length (rows tcell l) :: ps)) (fun _ _ s7 _ => 5000 - (intOf s7).toNat)
      case atStart => exact ⟨0, 0, 0, by simp, by simp, by simp, by omega, Lib.hid rfl, H⟩
      case round =>
        clear H
        obtain ⟨a, b, d, rfl, rfl, rfl, hd, hab, H⟩ := hrel
        have hd1 := (best_far s i d).2.2
        rw [hab.out] at hd1
        simp only at hd1
        by_cases hdm : d + 1 ≤ min i 4096
        · have hdi : (d : Int) + 1 ≤ (i : Int) := by omega
          have hd4 : (d : Int) + 1 ≤ 4096 := by omega
          obtain ⟨x, hx⟩ : ∃ x, Hid (i - (d + 1) = x) := ⟨_, rfl⟩
          have hxI : (i : Int) - ((d : Int) + 1) = (x : Int) := by have := hx.out; omega
          have hxi : x ≤ i := by have := hx.out; omega
          have hbs : Hid (best s i (d + 1) = if a < comm s x i then (comm s x i, d + 1) else (a, b)) := Lib.hid (by rw [best, hab.out, hx.out])
          obtain ⟨n, hn⟩ : ∃ n, Hid (comm s x i = n) := ⟨_, rfl⟩
          have hbs' := hbs.out
          rw [hn.out] at hbs'
          clear hbs
          go_wp2_with fail
          refine (common_any H hxi hi hs).mono ?_
          rintro e w1 ⟨_, rfl, rfl, H1⟩
          rw [hn.out]
          clear H
          by_cases han : a < n
          · have hanI : (a : Int) < (n : Int) := by omega
            rw [if_pos han] at hbs'
            have HB := Lib.hid hbs'
            clear hbs'
            go_wp2_with fail
            go_roundw
            case rel => exact ⟨n, d + 1, d + 1, by go_num, by go_num, by go_num, by omega, HB, H1⟩
            case measure => simp [intOf]; omega
          · have hanI : ¬ (a : Int) < (n : Int) := by omega
            rw [if_neg han] at hbs'
            have HB := Lib.hid hbs'
            clear hbs'
            go_wp2_with fail
            go_roundw
            case rel => exact ⟨a, b, d + 1, by go_num, by go_num, by go_num, by omega, HB, H1⟩
            case measure => simp [intOf]; omega
        · have hde : d = min i 4096 := by omega
          have hst' := hst.out
          have htk' := htk.out
          rw [← hde, hab.out] at hst' htk'
          by_cases ha3 : 3 ≤ a
          · have ha3I : ¬ (a : Int) < 3 := by omega
            have et : trim (a, b) = (a, b) := by unfold trim; rw [if_pos ha3]
            rw [et, if_pos ha3] at hst' htk'
            simp only at hst'
            have HT := Lib.hid htk'
            clear htk' et hst htk hde hab
            by_cases hdi : d + 1 ≤ i
            case' pos =>
              have hdiI : (d : Int) + 1 ≤ (i : Int) := by omega
              have hd4 : ¬ (d : Int) + 1 ≤ 4096 := by omega
            case' neg =>
              have hdiI : ¬ (d : Int) + 1 ≤ (i : Int) := by omega
            all_goals
              go_wp2_with (at_builtin; refine wpList_append_one rfl _ _ rfl Try.underlying26 tokInfo rfl (by decide) rfl H (news := tcell ⟨a, b, 0⟩) rfl rfl rfl (tcell_one _) (by omega) (by omega) ?_; clear H; intro v' w7 H)
              go_roundw
              case rel =>
                rw [hst'] at hsl hl2 hsp
                rw [HT.out] at hl2
                refine ⟨i + a, f, l ++ [⟨a, b, 0⟩], by go_num, by omega, by omega, hl2, by simp; omega, ?_⟩
                rw [rows_append, rows_one, List.length_append]
                exact H
              case measure => simp [intOf]; omega
          · have ha3I : (a : Int) < 3 := by omega
            have et : trim (a, b) = (0, 0) := by unfold trim; rw [if_neg ha3]
            rw [et, if_neg (by decide)] at hst' htk'
            have HT := Lib.hid htk'
            clear htk' et hst htk hde hab
            by_cases hdi : d + 1 ≤ i
            case' pos =>
              have hdiI : (d : Int) + 1 ≤ (i : Int) := by omega
              have hd4 : ¬ (d : Int) + 1 ≤ 4096 := by omega
            case' neg =>
              have hdiI : ¬ (d : Int) + 1 ≤ (i : Int) := by omega
            all_goals
              go_wp2_with (at_builtin; refine wpList_append_one rfl _ _ rfl Try.underlying26 tokInfo rfl (by decide) rfl H (news := tcell ⟨0, 0, (byt s i).toNat⟩) rfl rfl rfl (tcell_one _) (by omega) (by omega) ?_; clear H; intro v' w7 H)
              go_roundw
              case rel =>
                rw [hst'] at hsl hl2 hsp
                rw [HT.out] at hl2
                refine ⟨i + 1, f, l ++ [⟨0, 0, (byt s i).toNat⟩], by go_num, by omega, by omega, hl2, by simp; omega, ?_⟩
                rw [rows_append, rows_one, List.length_append]
                exact H
              case measure => simp [intOf]; omega
    · have hltI : ¬ (i : Int) < (s.size : Int) := by omega
      have hfin : Hid (l = W) := Lib.hid (by rw [← hl.out, parseN_end (by omega)]; simp)
      clear hl
      go_wp2
      go_ret
      refine ⟨_, rfl, ?_⟩
      rw [← hfin.out]
      exact H
end Go.Proofs.Ytpbodonmiepilaa
/- split: the walk of SplitLeast. -/
namespace Go.Proofs.Ytpbodonmiepilaa
open Go.RowKit

structure AtOk (C : List Nat) (N n m : Nat) (cs ks : List Int) : Prop where
  pos : 0 < m
  am : ∀ i, i < m → ∃ j, j < n ∧ cs.getD i 0 = ((C.getD j 0 : Nat) : Int)
  kd : ∀ i, i < m → ks.getD i 0 = 1 ∨ ks.getD i 0 = 2
  rise : ∀ i, i + 1 < m → cs.getD i 0 < cs.getD (i + 1) 0
  last : cs.getD (m - 1) 0 = N
theorem at_ok {C : List Nat} {N n : Nat} {l : List (Nat × Int)} (hn : C.length = n) (hC : CutsIs N C) (hc : Chn n l) (hl : ∃ k, l.getLast? = some (n - 1, k)) : AtOk C N n l.length (l.map fun p => ((C.getD p.1 0 : Nat) : Int)) (l.map fun p => p.2) := by
  obtain ⟨h0, h12, hlast, hrise, hle⟩ := hC.facts
  obtain ⟨k, hl⟩ := hl
  have hg : ∀ i (h : i < l.length), (l.map fun p => ((C.getD p.1 0 : Nat) : Int)).getD i 0 = ((C.getD l[i].1 0 : Nat) : Int) ∧ (l.map fun p => p.2).getD i 0 = l[i].2 := fun i h => by
    simp [List.getElem?_eq_getElem h]
  have hp : 0 < l.length := by
    cases l with
    | nil => cases hl
    | cons _ _ => simp
  refine ⟨hp, fun i h => ⟨l[i].1, hc.low _ (List.getElem_mem h), (hg i h).1⟩, fun i h => ?_, fun i h => ?_, ?_⟩
  · rw [(hg i h).2]
    exact hc.kind _ (List.getElem_mem h)
  · rw [(hg i (by omega)).1, (hg (i + 1) h).1]
    have h1 : l[i].1 < l[i + 1].1 := List.pairwise_iff_getElem.1 hc.rise i (i + 1) (by omega) h (by omega)
    have h2 := hrise _ _ h1 (by rw [hn]; exact hc.low _ (List.getElem_mem h))
    omega
  · rw [(hg _ (by omega)).1]
    rw [List.getLast?_eq_getElem?, List.getElem?_eq_getElem (by omega)] at hl
    have h3 : l[l.length - 1] = (n - 1, k) := by simpa using hl
    rw [h3, ← hn]
    simp only
    omega
theorem wq_pos (T : List Tok) (C : List Nat) (i : Nat) : 0 < (wq T C i).1 := by
  rcases wq_is T C i with h | ⟨k, -, h⟩
  · rw [h]; have := cst_pos (segT T 0 (C.getD i 0)); simp only [wayT]; omega
  · rw [h]; have := cst_pos (segT T (C.getD k 0) (C.getD i 0)); simp only [wayT]; omega
theorem chn_snoc {n i : Nat} {l : List (Nat × Int)} {k : Int} (h : Chn n l) (hl : ∀ p ∈ l, p.1 < i) (hi : i < n) (hk : k = 1 ∨ k = 2) : Chn n (l ++ [(i, k)]) := by
  refine ⟨?_, fun p hp => ?_, fun p hp => ?_⟩
  · rw [List.pairwise_append]
    exact ⟨h.rise, by simp, fun a ha b hb => by simp only [List.mem_singleton] at hb; subst hb; exact hl a ha⟩
  · rcases List.mem_append.1 hp with hp | hp
    · exact h.low p hp
    · simp only [List.mem_singleton] at hp; subst hp; exact hi
  · rcases List.mem_append.1 hp with hp | hp
    · exact h.kind p hp
    · simp only [List.mem_singleton] at hp; subst hp; exact hk
set_option maxRecDepth 100000 in
set_option maxHeartbeats 6400000 in
theorem lawleast_any (s0 : ByteArray) (xb xk : Int) (w : World) : Calls Try.prog 4 #[.string s0, .int .i64 xb, .int .i64 xk] w (Ret fun r w' => r = .bool true ∧ Own w w' []) := by
  have H := Own.start w
  have k1 := fun w => cut47_any s0 w
  have hs := cutP_size s0
  generalize cutP s0 = s at *
  have K1 := Lib.hid k1
  have hpl := parse_len s
  have hok := parse_ok s
  have KP := Lib.hid (fun w => refparse_any (Own.start w) (s := s) (by omega))
  have KA := Lib.hid awake47_any
  generalize parse s = T at *
  have hTl : T.length ≤ 3000 := by omega
  have HOK := Lib.hid hok
  clear k1 hok hpl
  go_enter Try.func4, Try.ntmps4
  go_wp2_with fail
  refine (K1.out _).mono ?_
  rintro e w1 ⟨_, rfl, rfl, J⟩
  replace H := H.join J
  clear J K1
  go_wp2_with fail
  refine (KP.out _).mono ?_
  rintro e w2 ⟨tv, rfl, J⟩
  replace H := (H.join J).bare
  have ht := J.rd
  have KL := Lib.hid (plan_any ht HOK.out hTl)
  obtain ⟨ta, tc, rfl, htc1, htc2⟩ := ht.shape
  clear KP
  go_wp2_with fail
  refine KL.out.mono ?_
  rintro e w3 ⟨_, rfl, C, hC, av, kv, rfl, J3⟩
  have ht3 := ht.old J3
  replace H := H.join J3
  obtain ⟨l, hcs, hks, hch, hlast, hlon, hml, hmn⟩ := (plan_ok (T := T) (C := C) hC.facts.1).ex
  obtain ⟨cs, hcse⟩ : ∃ cs, Hid (atT T C = cs) := ⟨_, rfl⟩
  obtain ⟨ks, hkse⟩ : ∃ ks, Hid (ksT T C = ks) := ⟨_, rfl⟩
  rw [hcse.out] at hcs H J3
  rw [hkse.out] at hks H J3
  rw [← hml] at H J3
  obtain ⟨n, hn⟩ : ∃ n, Hid (C.length = n) := ⟨_, rfl⟩
  have hzip : cs.zip ks = prs C l := by rw [hcs, hks, prs, List.zip_map']
  have hn12 := hC.facts.2.1
  have hn0 := hC.facts.1
  have hrise := hC.facts.2.2.2.1
  have hleC := hC.facts.2.2.2.2
  rw [hn.out] at hch hlast hlon hmn hn12 hn0 hrise
  have hwf : wfalls T.length (cs.zip ks) 0 = false := by
    rw [hzip]
    exact chn_wf hrise hleC l 0 hch fun p _ => by omega
  have hAO : AtOk C T.length n l.length cs ks := by
    rw [hcs, hks]
    exact at_ok hn.out hC hch hlast
  have hlc : l.length = cs.length := by rw [hcs, List.length_map]
  have hlk : l.length = ks.length := by rw [hks, List.length_map]
  have hra := (H.rd)
  have hrk := (H.front 1 rfl).rd
  rw [hlc] at hra
  rw [hlk] at hrk
  have hpos := wq_pos T C (n - 1)
  have KL1 := fun w' (h : Own w3 w' []) => long_any (w := w') (ht3.old h) (hra.old h) (hrk.old h) HOK.out hTl (by omega) (by omega) hwf
  rw [hzip, hlon] at KL1
  have KL2 : Hid (∀ (l2 : List (Nat × Int)) (w' : World) (cv kv : Value), Own w3 w' [] → Chn n l2 → (∃ k, l2.getLast? = some (n - 1, k)) → Rd w' 1 cv l2.length (nums (l2.map fun p => ((C.getD p.1 0 : Nat) : Int))) → Rd w' 1 kv l2.length (nums (l2.map fun p => p.2)) → l2.length ≤ 100 →
      ∃ R : Nat, (wq T C (n - 1)).1 ≤ R ∧ Calls Try.prog 13 #[.slice ta T.length tc, cv, kv] w' (Ret fun r w'' => r = .int .i64 (R : Nat) ∧ Own w' w'' [])) := Lib.hid fun l2 w' cv kv h hc ⟨k, hl⟩ h1 h2 h3 => by
    have hz : (l2.map fun p => ((C.getD p.1 0 : Nat) : Int)).zip (l2.map fun p => p.2) = prs C l2 := by rw [prs, List.zip_map']
    refine ⟨lonF T (prs C l2) 0, ?_, ?_⟩
    · have := chn_least (T := T) (C := C) l2 0 0 hc (.inl ⟨rfl, rfl⟩) (n - 1, k) hl
      simpa using this
    · have hL := long_any (cs := l2.map fun p => ((C.getD p.1 0 : Nat) : Int)) (ks := l2.map fun p => p.2) (ht3.old h) (by rw [List.length_map]; exact h1) (by rw [List.length_map]; exact h2) HOK.out hTl (by rw [List.length_map]; exact h3) (by simp) (by rw [hz]; exact chn_wf hrise hleC l2 0 hc fun p _ => by omega)
      rw [hz] at hL
      exact hL
  have KC := Lib.hid (fun (w1 w2 : World) (v : Value) h => cutsR_is (N := T.length) (w := w1) (w' := w2) (v := v) (by omega) h)
  have hCU : Hid (∀ C', CutsIs T.length C' → C' = C) := Lib.hid fun C' h => cutsIs_uniq h hC
  obtain ⟨R, hR⟩ : ∃ R, Hid ((wq T C (n - 1)).1 = R) := ⟨_, rfl⟩
  rw [hR.out] at KL1 KL2 hpos
  replace KL1 := Lib.hid KL1
  obtain ⟨N, hN⟩ : ∃ n, Hid (T.length = n) := ⟨_, rfl⟩
  obtain ⟨m, hm⟩ : ∃ n, Hid (l.length = n) := ⟨_, rfl⟩
  rw [hN.out] at KL1 KL2 KC hCU hAO htc1 hTl ⊢
  rw [hm.out] at hAO H hmn hlc hlk
  replace hlc := Lib.hid hlc
  replace hlk := Lib.hid hlk
  have hm0 := hAO.pos
  have HAO := Lib.hid hAO
  obtain ⟨ca, cc, rfl, hcc1, hcc2⟩ := H.rd.shape
  obtain ⟨ka, kc, rfl, hkc1, hkc2⟩ := (H.front 1 rfl).rd.shape
  have HRA := Lib.hid hra
  have HRK := Lib.hid hrk
  clear hAO hra hrk hwf hzip hlast hlon hml hcs hks hch hrise hleC ht3 ht J3 KL HOK J hC hcse hkse
  have HW := H.bare
  clear H
  have H3 := Own.start w3
  go_upto_region 3 with (fail)
  go_wp2_with fail
  refine (cuts_any (N : Int) (by omega) _).mono ?_
  rintro e w4 ⟨cv, rfl, J⟩
  obtain ⟨C', hC', J⟩ := KC.out _ _ _ J
  obtain rfl : C = C' := (hCU.out _ hC').symm
  rw [hn.out] at J
  clear KC hCU hC'
  have hcl : (nums (C.map Int.ofNat)).length = n := by simp [nums, hn.out]
  obtain ⟨cg, mc, rfl, hmc1, hmc2, -, -, -, -⟩ := J.at (by rw [hcl]; exact hn0)
  have hCl : (C.map Int.ofNat).length = n := by rw [List.length_map, hn.out]
  have HRM : Hid (∀ w' (qs : List Piece), Own w4 w' qs → Rd w' 1 (.slice (some ⟨cg, 0, none⟩) n mc) (C.map Int.ofNat).length (nums (C.map Int.ofNat))) := Lib.hid fun w' qs h => by rw [hCl]; exact J.rd.old h
  have HMC : Hid (∀ w' (qs : List Piece), Own w4 w' qs → ∀ i, i < n → w'.cell? ⟨cg, i, none⟩ = some (.int .i64 (C.getD i 0 : Nat))) := Lib.hid fun w' qs h i hi => by
    obtain ⟨_, _, e1, h1⟩ := rd_at (J.rd.old h) (Own.start w') hi
    cases e1
    rw [Nat.zero_add, nats_get] at h1
    exact h1
  obtain ⟨M, rfl⟩ : ∃ M, m = M + 1 := ⟨m - 1, by omega⟩
  have HAC : Hid (∀ w' (qs : List Piece), Own w4 w' qs → ∃ ba oa bk ok, ca = some ⟨ba, oa, none⟩ ∧ ka = some ⟨bk, ok, none⟩ ∧ ∀ i, i < M + 1 → w'.cell? ⟨ba, oa + i, none⟩ = some (.int .i64 (cs.getD i 0)) ∧ w'.cell? ⟨bk, ok + i, none⟩ = some (.int .i64 (ks.getD i 0))) := Lib.hid fun w' qs h => by
    have g1 := HRA.out.old ((J.bare).join (h.bare))
    have g2 := HRK.out.old ((J.bare).join (h.bare))
    rw [← hlc.out] at g1
    rw [← hlk.out] at g2
    obtain ⟨ba, oa, e1, -⟩ := rd_at g1 (Own.start w') (i := 0) (by omega)
    obtain ⟨bk, ok, e2, -⟩ := rd_at g2 (Own.start w') (i := 0) (by omega)
    refine ⟨ba, oa, bk, ok, e1, e2, fun i hi => ?_⟩
    obtain ⟨_, _, f1, h1⟩ := rd_at g1 (Own.start w') hi
    obtain ⟨_, _, f2, h2⟩ := rd_at g2 (Own.start w') hi
    rw [e1] at f1
    rw [e2] at f2
    cases f1; cases f2
    exact ⟨h1, h2⟩
  obtain ⟨ba, oa, bk, ok, rfl, rfl, -⟩ := HAC.out _ _ (Own.start w4)
  replace HAC : Hid (∀ w' (qs : List Piece), Own w4 w' qs → ∀ i, i < M + 1 → w'.cell? ⟨ba, oa + i, none⟩ = some (.int .i64 (cs.getD i 0)) ∧ w'.cell? ⟨bk, ok + i, none⟩ = some (.int .i64 (ks.getD i 0))) := Lib.hid fun w' qs h => by
    obtain ⟨_, _, _, _, e1, e2, h1⟩ := HAC.out w' qs h
    cases e1; cases e2
    exact h1
  replace H3 : Own w3 w4 [] := J.bare
  have H4 := Own.start w4
  have hlast := HAO.out.last
  rw [Nat.add_sub_cancel] at hlast
  have c0 := (HAC.out _ _ H4 M (by omega)).1
  rw [hlast] at c0
  have hb1 : ((M : Int) + 1 == 0) = false := by simp; omega
  have hb2 : ((n : Int) == 0) = false := by simp; omega
  clear hlast J hcl
  go_upto_region 6 with (fail)
  clear c0 hb1 hb2
  go_wp2_with fail
  go_loopw [11] (fun v11 wx => ∃ i : Nat, v11 = .int .i64 i ∧ i ≤ M + 1 ∧ Own w4 wx []) (fun v11 _ => M + 1 - (intOf v11).toNat)
  case atStart => exact ⟨0, rfl, by omega, H4⟩
  case round =>
    clear H4
    obtain ⟨i, rfl, hi, H4⟩ := hrel
    by_cases hiM : i < M + 1
    · have hiI : (i : Int) < (M : Int) + 1 := by omega
      obtain ⟨j, hj, hcj⟩ := HAO.out.am i hiM
      have KAM := Lib.hid (fun w' (h : Own w4 w' []) => among_any (j := j) (HRM.out w' [] h) (Own.start w') (by rw [hCl]; exact hj) (by rw [hCl]; omega))
      have hkd := HAO.out.kd i hiM
      have hways : (i = 0 ∧ ks.getD i 0 = 1) ∨ (i = 0 ∧ ks.getD i 0 = 2) ∨ (0 < i ∧ ks.getD i 0 = 1) ∨ (0 < i ∧ ks.getD i 0 = 2) := by omega
      have hacc := Lib.hid (fun w' (h : Own w4 w' []) => HAC.out w' [] h i hiM)
      rw [hcj] at hacc
      rw [nats_get] at KAM
      by_cases h0 : i = 0
      · subst h0
        clear hways
        have hk12 : (ks.getD 0 0 != 1) = true ∧ (ks.getD 0 0 != 2) = false ∨ (ks.getD 0 0 != 1) = false := by
          rcases hkd with h | h <;> rw [h] <;> decide
        replace hkd := Lib.hid hkd
        rw [Nat.add_zero, Nat.add_zero] at hacc
        generalize ks.getD 0 0 = kd at *
        rcases hk12 with ⟨h1, h2⟩ | h1
        all_goals
          go_upto_region 9 with (fail)
          refine wp_region_calm (fun w1 => Own w4 w1 []) 37 (by kernel_rfl) (by kernel_rfl) H4.drew ?_
          simp only [List.take_succ_cons, List.take_zero, List.drop_succ_cons, List.drop_zero]
          repeat
            first
            | (refine calm_value (v := ?_) (by decide) rfl (fun σ w1 hS => ?_) ?_
               rotate_left
               · obtain ⟨d0, d1⟩ := hacc.out _ hS
                 first | (go_simp; rfl) | rfl
               simp only [Act.put, List.setIfInBounds_toArray, List.set_cons_zero, List.set_cons_succ])
            | (refine calm_skip (by decide) rfl ?_
               simp only [Act.put, List.setIfInBounds_toArray, List.set_cons_zero, List.set_cons_succ])
          refine calm_call (v := .bool true) (by decide) rfl (fun w1 => (by go_simp; exact ⟨rfl, rfl⟩)) (fun σ w1 hS => ?_) ?_
          · refine (KAM.out _ hS).mono ?_
            rintro e _ ⟨_, rfl, rfl, rfl⟩
            exact ⟨rfl, hS⟩
          simp only [Act.put, List.setIfInBounds_toArray, List.set_cons_zero, List.set_cons_succ]
          repeat
            first
            | (refine calm_value (v := ?_) (by decide) rfl (fun σ w1 hS => ?_) ?_
               rotate_left
               · obtain ⟨d0, d1⟩ := hacc.out _ hS
                 first | (go_simp; rfl) | rfl
               simp only [Act.put, List.setIfInBounds_toArray, List.set_cons_zero, List.set_cons_succ])
            | (refine calm_skip (by decide) rfl ?_
               simp only [Act.put, List.setIfInBounds_toArray, List.set_cons_zero, List.set_cons_succ])
          refine calm_nil ?_
          intro wd HD
          clear H4
          go_wp2
          go_roundw
          case rel => exact ⟨1, by go_num, by omega, HD⟩
          case measure => simp [intOf] <;> omega
      · obtain ⟨q, rfl⟩ : ∃ q, i = q + 1 := ⟨i - 1, by omega⟩
        clear hways h0
        have hrs := HAO.out.rise q hiM
        rw [hcj] at hrs
        have hac2 := Lib.hid (fun w' (h : Own w4 w' []) => (HAC.out w' [] h q (by omega)).1)
        have hk12 : (ks.getD (q + 1) 0 != 1) = true ∧ (ks.getD (q + 1) 0 != 2) = false ∨ (ks.getD (q + 1) 0 != 1) = false := by
          rcases hkd with h | h <;> rw [h] <;> decide
        replace hkd := Lib.hid hkd
        generalize ks.getD (q + 1) 0 = kd at *
        generalize cs.getD q 0 = cq at *
        have hq0 : (0 : Int) < (q : Int) + 1 := by omega
        have hq1 : (q : Int) < (M : Int) + 1 := by omega
        have hq2 : q < M + 1 := by omega
        have hq3 : (0 : Int) ≤ (q : Int) := by omega
        have hw1 : IntKind.i64.wrap ((q : Int) + 1 - 1) = (q : Int) := by rw [Int.add_sub_cancel]; exact IntWalk.i64_in _ ⟨by omega, by omega⟩
        have hw2 : IntKind.i64.wrap (q : Int) = (q : Int) := IntWalk.i64_in _ ⟨by omega, by omega⟩
        have hlt : ¬ ((C.getD j 0 : Nat) : Int) ≤ cq := by omega
        obtain ⟨cj, hcj2⟩ : ∃ cj, Hid (((C.getD j 0 : Nat) : Int) = cj) := ⟨_, rfl⟩
        rw [hcj2.out] at hacc hlt KAM
        clear hcj hrs
        rcases hk12 with ⟨h1, h2⟩ | h1
        all_goals
          go_upto_region 9 with (fail)
          refine wp_region_calm (fun w1 => Own w4 w1 []) 37 (by kernel_rfl) (by kernel_rfl) H4.drew ?_
          simp only [List.take_succ_cons, List.take_zero, List.drop_succ_cons, List.drop_zero]
          repeat
            first
            | (refine calm_value (v := ?_) (by decide) rfl (fun σ w1 hS => ?_) ?_
               rotate_left
               · obtain ⟨d0, d1⟩ := hacc.out _ hS; have d2 := hac2.out _ hS
                 first | (go_simp; rfl) | rfl
               simp only [Act.put, List.setIfInBounds_toArray, List.set_cons_zero, List.set_cons_succ])
            | (refine calm_skip (by decide) rfl ?_
               simp only [Act.put, List.setIfInBounds_toArray, List.set_cons_zero, List.set_cons_succ])
          refine calm_call (v := .bool true) (by decide) rfl (fun w1 => (by go_simp; exact ⟨rfl, rfl⟩)) (fun σ w1 hS => ?_) ?_
          · refine (KAM.out _ hS).mono ?_
            rintro e _ ⟨_, rfl, rfl, rfl⟩
            exact ⟨rfl, hS⟩
          simp only [Act.put, List.setIfInBounds_toArray, List.set_cons_zero, List.set_cons_succ]
          repeat
            first
            | (refine calm_value (v := ?_) (by decide) rfl (fun σ w1 hS => ?_) ?_
               rotate_left
               · obtain ⟨d0, d1⟩ := hacc.out _ hS; have d2 := hac2.out _ hS
                 first | (go_simp; rfl) | rfl
               simp only [Act.put, List.setIfInBounds_toArray, List.set_cons_zero, List.set_cons_succ])
            | (refine calm_skip (by decide) rfl ?_
               simp only [Act.put, List.setIfInBounds_toArray, List.set_cons_zero, List.set_cons_succ])
          refine calm_nil ?_
          intro wd HD
          clear H4
          go_wp2
          go_roundw
          case rel => exact ⟨q + 2, by go_num, by omega, HD⟩
          case measure => simp [intOf]; omega
    · obtain rfl : i = M + 1 := by omega
      have hnI : ¬ (M : Int) + 1 < (M : Int) + 1 := by omega
      clear hiM hi
      go_upto_region 12 with (fail)
      replace H4 : Own w4 wr [slc 3 1 (.slice none 0 0) 0 (nums []), slc 3 1 (.slice none 0 0) 0 (nums [])] := (H4.nil 3 1).nil 3 1
      go_wp2_with fail
      go_loopw [12, 13, 14] (fun v12 v13 v14 wx => ∃ (i : Nat) (l2 : List (Nat × Int)), v14 = .int .i64 i ∧ i ≤ n ∧ Hid (Chn n l2 ∧ (∀ p ∈ l2, p.1 < i) ∧ (i = n → ∃ k, l2.getLast? = some (n - 1, k))) ∧ l2.length ≤ i ∧ Own w4 wx [slc 3 1 v12 l2.length (nums (l2.map fun p => ((C.getD p.1 0 : Nat) : Int))), slc 3 1 v13 l2.length (nums (l2.map fun p => p.2))]) (fun _ _ v14 _ => n - (intOf v14).toNat)
      case atStart => exact ⟨0, [], by go_num, by omega, Lib.hid ⟨⟨List.Pairwise.nil, by simp, by simp⟩, by simp, fun h => absurd h (by omega)⟩, by simp, H4⟩
      case round =>
        clear H4
        obtain ⟨i, l2, rfl, hi, hc2, hl2, H⟩ := hrel
        by_cases hin : i < n
        · have hiI : (i : Int) < (n : Int) := by omega
          have hwn : IntKind.i64.wrap ((n : Int) - 1) = (n : Int) - 1 := IntWalk.i64_in _ ⟨by omega, by omega⟩
          obtain ⟨r, hr⟩ : ∃ r : Nat, Hid (i % 62 = r) := ⟨_, rfl⟩
          have hr62 : r < 62 := by have := hr.out; omega
          have d2 : (i : Int).tmod 62 = (r : Int) := by have := hr.out; rw [Int.tmod_eq_emod_of_nonneg (by omega)]; omega
          have d3 : (i : Int) % 62 = (r : Int) := by have := hr.out; omega
          have d11 : (r : Int) < 64 := by omega
          have d12 : ¬ (r : Int) < 0 := by omega
          have d10 : IntKind.i64.wrap (r : Int) = (r : Int) := IntWalk.i64_in _ ⟨by omega, by omega⟩
          go_upto_region 15 with (fail)
          go_cut [114] (fun s114 wx => ∃ b, s114 = .bool b ∧ Hid (i = n - 1 → b = true) ∧ wx = wr)
          case first =>
            by_cases hl : i = n - 1
            · obtain rfl : n = i + 1 := by omega
              clear hl
              go_wp2
              go_meet
              exact ⟨true, rfl, Lib.hid fun _ => rfl, rfl⟩
            · have hb : ((i : Int) == (n : Int) - 1) = false := by simp; omega
              go_wp2
              go_meet
              exact ⟨_, rfl, Lib.hid fun h => absurd h hl, rfl⟩
          case rest =>
          obtain ⟨b, rfl, hb, rfl⟩ := hcut
          obtain ⟨a1, c1, rfl, h11, h12⟩ := H.rd.shape
          obtain ⟨a2, c2, rfl, h21, h22⟩ := (H.front 1 rfl).rd.shape
          obtain ⟨q, hq⟩ : ∃ q, Hid (l2.length = q) := ⟨_, rfl⟩
          rw [hq.out] at H hl2 h11 h21 ⊢
          have hc3 := hc2.out
          cases b
          case false =>
            have hrel2 : Hid (Chn n l2 ∧ (∀ p ∈ l2, p.1 < i + 1) ∧ (i + 1 = n → ∃ k, l2.getLast? = some (n - 1, k))) := Lib.hid ⟨hc3.1, fun p hp => by have := hc3.2.1 p hp; omega, fun h => absurd (hb.out (by omega)) (by simp)⟩
            clear hc3
            go_wp2
            go_roundw
            case rel => exact ⟨i + 1, l2, by go_num, by omega, hrel2, by rw [hq.out]; omega, by rw [hq.out]; exact H⟩
            case measure => simp [intOf]; omega
          case true =>
            obtain ⟨z, hz⟩ : ∃ z : Int, Hid ((xk / 2 ^ r) % 2 = z) := ⟨_, rfl⟩
            have hz01 : z = 0 ∨ z = 1 := by have := hz.out; omega
            have hand : bits .and .i64 (xk / 2 ^ r) 1 = z := by rw [i64_and1, hz.out]
            have hwz : IntKind.i64.wrap (1 + z) = 1 + z := IntWalk.i64_in _ ⟨by omega, by omega⟩
            have c0 := HMC.out _ _ H i hin
            obtain ⟨ci, hci⟩ : ∃ ci : Int, Hid (((C.getD i 0 : Nat) : Int) = ci) := ⟨_, rfl⟩
            rw [hci.out] at c0
            go_wp2_with (first
              | (at_builtin; refine wpList_append_one rfl _ _ rfl Try.underlying22 intInfo rfl (by decide) rfl H (news := [.int .i64 ci]) rfl rfl rfl (by simp [Value.oneCell']) (by omega) (by omega) ?_; clear H c0; intro v' w' H; obtain ⟨a', c', rfl, h1', h2'⟩ := H.rd.shape; replace H := H.front 1 rfl)
              | (at_builtin; refine wpList_append_one rfl _ _ rfl Try.underlying22 intInfo rfl (by decide) rfl H (news := [.int .i64 (1 + z)]) rfl rfl rfl (by simp [Value.oneCell']) (by omega) (by omega) ?_; clear H; intro v'' w'' H; obtain ⟨a'', c'', rfl, h1'', h2''⟩ := H.rd.shape))
            have hkz : 1 + z = 1 ∨ 1 + z = 2 := by omega
            have hrel2 : Hid (Chn n (l2 ++ [(i, 1 + z)]) ∧ (∀ p ∈ l2 ++ [(i, 1 + z)], p.1 < i + 1) ∧ (i + 1 = n → ∃ k, (l2 ++ [(i, 1 + z)]).getLast? = some (n - 1, k))) := Lib.hid ⟨chn_snoc hc3.1 hc3.2.1 hin hkz, fun p hp => by
              rcases List.mem_append.1 hp with hp | hp
              · have := hc3.2.1 p hp; omega
              · simp only [List.mem_singleton] at hp; subst hp; simp, fun h => ⟨1 + z, by rw [List.getLast?_append]; simp; omega⟩⟩
            have hlen : q + 1 = (l2 ++ [(i, 1 + z)]).length := by rw [List.length_append, hq.out]; rfl
            have H5 := H
            have e1 : nums ((l2 ++ [(i, 1 + z)]).map fun p => ((C.getD p.1 0 : Nat) : Int)) = nums (l2.map fun p => ((C.getD p.1 0 : Nat) : Int)) ++ [.int .i64 ci] := by
              rw [List.map_append, ← nums_append, ← hci.out]; rfl
            have e2 : nums ((l2 ++ [(i, 1 + z)]).map fun p => p.2) = nums (l2.map fun p => p.2) ++ [.int .i64 (1 + z)] := by
              rw [List.map_append, ← nums_append]; rfl
            have H6 : Own w4 w'' [slc 3 1 (.slice a' (q + 1) c') (l2 ++ [(i, 1 + z)]).length (nums ((l2 ++ [(i, 1 + z)]).map fun p => ((C.getD p.1 0 : Nat) : Int))), slc 3 1 (.slice a'' (q + 1) c'') (l2 ++ [(i, 1 + z)]).length (nums ((l2 ++ [(i, 1 + z)]).map fun p => p.2))] := by
              rw [e1, e2, ← hlen]
              exact H.front 1 rfl
            replace hlen := Lib.hid hlen
            clear e1 e2 H H5 hc3
            go_wp2_with fail
            go_roundw
            case rel => exact ⟨i + 1, l2 ++ [(i, 1 + z)], by go_num, by omega, hrel2, by rw [← hlen.out]; omega, H6⟩
            case measure => simp [intOf]; omega
        · obtain rfl : i = n := by omega
          have hch := Lib.hid hc2.out.1
          have hlast := Lib.hid (hc2.out.2.2 rfl)
          obtain ⟨a1, c1, rfl, h11, h12⟩ := H.rd.shape
          obtain ⟨a2, c2, rfl, h21, h22⟩ := (H.front 1 rfl).rd.shape
          have KL1 := Lib.hid (KL1.out wr (H3.join H.bare))
          have hr1 := Lib.hid H.rd
          have hr2 := Lib.hid (H.front 1 rfl).rd
          have hposI : (0 : Int) < (R : Int) := by omega
          have hnn : ¬ (i : Int) < (i : Int) := by omega
          clear hc2
          go_upto_region 19 with (fail)
          go_wp2_with fail
          refine KL1.out.mono ?_
          rintro e w5 ⟨_, rfl, rfl, J5⟩
          clear KL1
          obtain ⟨R2, hR2, KL3⟩ := KL2.out l2 w5 _ _ ((H3.join H.bare).join J5) hch.out hlast.out (hr1.out.old J5) (hr2.out.old J5) (by omega)
          replace KL3 := Lib.hid KL3
          replace H := ((H3.join H.bare).join J5)
          obtain ⟨q, hq⟩ : ∃ q, Hid (l2.length = q) := ⟨_, rfl⟩
          rw [hq.out] at KL3 hl2 h11 h21 ⊢
          have hleI : (R : Int) ≤ (R2 : Int) := by omega
          clear hr1 hr2 hch hlast KL2
          go_wp2_with fail
          refine KL3.out.mono ?_
          rintro e w6 ⟨_, rfl, rfl, J6⟩
          replace H := H.join J6
          clear KL3 J6
          go_wp2_with fail
          refine (KA.out _).mono ?_
          rintro e w7 ⟨_, rfl, rfl, J7⟩
          replace H := H.join J7
          go_wp2_with fail
          go_ret
          exact ⟨_, rfl, rfl, HW.join H⟩
end Go.Proofs.Ytpbodonmiepilaa
