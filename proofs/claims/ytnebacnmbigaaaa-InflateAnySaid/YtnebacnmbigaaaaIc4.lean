/-
  Texts of this claim, one behind the other: As XCalm; A call that changes what there is, in a region that draws its order; inflate; slices.Repeat; copy into a row of the call's own; slices.Repeat of one int; slices.Grow of nil, slices.Concat; flate; flate; flate; inflate; As XTrk; inflate; inflate.
-/
import Derived.Test.YtnebacnmbigaaaaIc3
import Derived.Deep.OwnRows
import Derived.Laws.CopyOwn
import Derived.Lib.AppendZeros
set_option linter.unusedVariables false
/- As XCalm: of the operations in 'tw', whose values are known, too, S is told when they were done. No program in sight. (Written by tools/trk.py.) -/
namespace Go.Proofs.Ytnebacnmbigaaaa.Trk
open Go.RowKit

def trk (tw : List Nat) (i : Nat) (v : Value) (σ : Sig) : Sig := if i ∈ tw then σ.upd i v else σ
/-- In every world that meets S the operation yields v, and S holds behind it. -/
def Calm1 (P : Program) (S : Sig → World → Prop) (tw : List Nat) (i : Nat) (o : Oper) (a : Act) (v : Value) : Prop :=
  ∀ σ w, S σ w → (i ∈ tw → σ i = none) → ∀ (K : Act → World → Prop) (Q : Exit → Act → World → Prop), (∀ w', S (trk tw i v σ) w' → K (a.put o.dst v) w') → o.wp P a w K Q

def calm (P : Program) (ops : Array Oper) (S : Sig → World → Prop) (nw tw : List Nat) (R : Act → Prop) : Nat → List Oper → Act → Prop
  | _, [], a => R a
  | i, o :: rest, a => (i ∈ nw ∧ New1 P S i o a ∧ calm P ops S nw tw R (i + 1) rest a) ∨
      (i ∉ nw ∧ Region.wanted o (yielded ops a.tmps) = true ∧ ∃ v, Calm1 P S tw i o a v ∧ calm P ops S nw tw R (i + 1) rest (a.put o.dst v)) ∨
      (i ∉ nw ∧ Region.wanted o (yielded ops a.tmps) = false ∧ calm P ops S nw tw R (i + 1) rest (a.put o.dst undef))

section
variable {P : Program} {ops : Array Oper} {S : Sig → World → Prop} {nw tw : List Nat} {R : Act → Prop} {a : Act} {o : Oper} {rest : List Oper} {i : Nat}
theorem calm_nil (h : R a) : calm P ops S nw tw R i [] a := h
theorem calm_step (v : Value) (hi : i ∉ nw) (hw : Region.wanted o (yielded ops a.tmps) = true)
    (h1 : ∀ σ w, S σ w → (i ∈ tw → σ i = none) → ∀ (K : Act → World → Prop) (Q : Exit → Act → World → Prop), (∀ w', S (trk tw i v σ) w' → K (a.put o.dst v) w') → o.wp P a w K Q) (h : calm P ops S nw tw R (i + 1) rest (a.put o.dst v)) : calm P ops S nw tw R i (o :: rest) a := .inr (.inl ⟨hi, hw, v, h1, h⟩)
theorem calm_skip (hi : i ∉ nw) (hw : Region.wanted o (yielded ops a.tmps) = false)
    (h : calm P ops S nw tw R (i + 1) rest (a.put o.dst undef)) : calm P ops S nw tw R i (o :: rest) a := .inr (.inr ⟨hi, hw, h⟩)
theorem calm_new (hi : i ∈ nw)
    (h1 : ∀ σ w, S σ w → ∀ (K : Act → World → Prop) (Q : Exit → Act → World → Prop), (∀ v w', S (σ.upd i v) w' → K (a.put o.dst v) w') → o.wp P a w K Q) (h : calm P ops S nw tw R (i + 1) rest a) : calm P ops S nw tw R i (o :: rest) a := .inl ⟨hi, h1, h⟩
end

section
variable {P : Program} {ops : Array Oper} {S : Sig → World → Prop} {nw tw : List Nat}
theorem calm_frames {R : Act → Prop} : ∀ (l : List Oper) (i : Nat) (a : Act), calm P ops S nw tw R i l a →
    ∃ vs : List Value, vs.length = l.length ∧ R (frames ((dets nw i l).zip vs) a) ∧
      ∀ k o, l[k]? = some o → ∃ v, vs[k]? = some v ∧
        ((i + k ∈ nw ∧ New1 P S (i + k) o (frames (((dets nw i l).zip vs).take k) a)) ∨
         (i + k ∉ nw ∧ Region.wanted o (yielded ops (frames (((dets nw i l).zip vs).take k) a).tmps) = true ∧ Calm1 P S tw (i + k) o (frames (((dets nw i l).zip vs).take k) a) v) ∨
         (i + k ∉ nw ∧ Region.wanted o (yielded ops (frames (((dets nw i l).zip vs).take k) a).tmps) = false ∧ v = undef)) := by
  intro l
  induction l with
  | nil => intro i a h; exact ⟨[], rfl, h, fun k o hk => by simp at hk⟩
  | cons o l ih =>
    intro i a h
    have step : ∀ (v : Value) (a' : Act), a' = a.put (if i ∈ nw then none else o.dst) v → calm P ops S nw tw R (i + 1) l a' →
        ((i ∈ nw ∧ New1 P S i o a) ∨ (i ∉ nw ∧ Region.wanted o (yielded ops a.tmps) = true ∧ Calm1 P S tw i o a v) ∨ (i ∉ nw ∧ Region.wanted o (yielded ops a.tmps) = false ∧ v = undef)) → ∃ vs : List Value, vs.length = (o :: l).length ∧ R (frames ((dets nw i (o :: l)).zip vs) a) ∧
      ∀ k o', (o :: l)[k]? = some o' → ∃ v, vs[k]? = some v ∧
        ((i + k ∈ nw ∧ New1 P S (i + k) o' (frames (((dets nw i (o :: l)).zip vs).take k) a)) ∨
         (i + k ∉ nw ∧ Region.wanted o' (yielded ops (frames (((dets nw i (o :: l)).zip vs).take k) a).tmps) = true ∧ Calm1 P S tw (i + k) o' (frames (((dets nw i (o :: l)).zip vs).take k) a) v) ∨
         (i + k ∉ nw ∧ Region.wanted o' (yielded ops (frames (((dets nw i (o :: l)).zip vs).take k) a).tmps) = false ∧ v = undef)) := by
      intro v a' ha hc h0
      obtain ⟨vs, hl, hR, hk⟩ := ih _ _ hc
      refine ⟨v :: vs, by simp [hl], by rw [ha] at hR; exact hR, fun k o' hk' => ?_⟩
      cases k with
      | zero => simp at hk'; subst hk'; exact ⟨v, rfl, h0⟩
      | succ k =>
        have := hk k o' (by simpa using hk')
        rw [ha, show i + 1 + k = i + (k + 1) by omega] at this
        exact this
    rcases h with ⟨hi, h1, h2⟩ | ⟨hi, hw, v, h1, h2⟩ | ⟨hi, hw, h2⟩
    · exact step undef a (by rw [if_pos hi]; rfl) h2 (.inl ⟨hi, h1⟩)
    · exact step v _ (by rw [if_neg hi]) h2 (.inr (.inl ⟨hi, hw, h1⟩))
    · exact step undef _ (by rw [if_neg hi]) h2 (.inr (.inr ⟨hi, hw, rfl⟩))

theorem Calm1.at {tw : List Nat} {i : Nat} {o : Oper} {a a' : Act} {v : Value} (h : Calm1 P S tw i o a v) (he : execOp a'.eval o = execOp a.eval o) (hs : a.tmps.size = a'.tmps.size) {σ : Sig} {w : World} (hw : S σ w) (hfr : i ∈ tw → σ i = none)
    (K : Act → World → Prop) (Q : Exit → Act → World → Prop) (hK : ∀ w', S (trk tw i v σ) w' → K (a'.put o.dst v) w') : o.wp P a' w K Q := by
  have h1 := h σ w hw hfr (fun a1 w1 => a1 = a.put o.dst v ∧ S (trk tw i v σ) w1) (fun _ _ _ => False) (fun w' hw' => ⟨rfl, hw'⟩)
  unfold Oper.wp at *
  rw [he]
  generalize (execOp a.eval o).run P w = r at *
  cases r with
  | ok n w' =>
    cases n <;> simp only [Oper.upon] at h1 ⊢
    case value u => rw [put_eq hs h1.1]; exact hK _ h1.2
    case skip => rw [put_eq hs h1.1]; exact hK _ h1.2
    case defer d =>
      have := congrArg (fun x => x.defers.length) h1.1
      cases hd : o.dst <;> simp [Act.put, hd] at this
    case enter f args =>
      refine Calls.mono h1 fun e w'' he => ?_
      cases e with
      | returned u =>
        show K (a'.put o.dst u) w''
        rw [put_eq hs he.1]; exact hK _ he.2
      | panicked c => exact he.elim
      | outgrown => obtain ⟨_, _, hh⟩ := he; exact hh.elim
    case row row args => exact Rows.mono h1 fun u w'' he => by rw [put_eq hs he.1]; exact hK _ he.2
  | halt x w' => cases x <;> simp only [Oper.upon] at h1 ⊢
theorem wpAny_new {Q : Exit → Act → World → Prop} {a a0 : Act} {w : World} {l : List Oper} (S : Sig → World → Prop) (n : Nat) (nw tw : List Nat) (pre : List Nat) (htw : ∀ k ∈ tw, k < n ∧ k ∉ nw ∧ k ∉ pre ∧ ∀ o, l[k]? = some o → o.guard = none) (hok : calmOk l.toArray n nw pre = true) (hS : S Sig.no w)
    (h : calm P l.toArray S nw tw (fun a' => ∀ σ w', (∀ k ∈ nw, (σ k).isSome = true) → (∀ k ∈ tw, (σ k).isSome = true) → S σ w' → wpList P l.toArray Q (l.drop n) (putNew l nw σ a') w') 0 (l.take n) a)
    (listed0 : Array Bool) (hs0 : listed0.size = l.length) (hl0 : ∀ k, k < l.length → listed0.getD k true = true → k ∈ pre) (hp0 : ∀ p ∈ pre, listed0.getD p true = true)
    (ha0 : PreRun P l pre a a0) :
    wpAny P .any l.toArray Q (left listed0) listed0 a0 w := by
  have g := good_of hok
  have hnl : n ≤ l.length := by simpa using g.le
  obtain ⟨vs, hvl, hR, hk⟩ := calm_frames _ _ _ h
  have hvn : vs.length = n := by simp [hvl, hnl]
  obtain ⟨D, hD⟩ : ∃ D, (dets nw 0 (l.take n)).zip vs = D := ⟨_, rfl⟩
  rw [hD] at hR hk
  simp only [Nat.zero_add] at hk
  have hDl : D.length = n := by rw [← hD]; simp [dets_length, hvn, hnl]
  have hget : ∀ k, k < n → (dets nw 0 (l.take n))[k]? = (l[k]?).map fun o => if k ∈ nw then none else o.dst := by
    intro k hk
    rw [dets_get]
    simp [hk]
  -- the k-th of D
  have hDk : ∀ (k : Nat) (o : Oper) (v : Value), k < n → k ∉ nw → l[k]? = some o → vs[k]? = some v → D[k]? = some (o.dst, v) := by
    intro k o v hkn hnk ho hv
    rw [← hD, List.getElem?_zip_eq_some]
    refine ⟨?_, hv⟩
    rw [hget k hkn, ho]
    simp [hnk]
  have hDd : ∀ (k : Nat) (t : Tmp) (v : Value), D[k]? = some (some t, v) → k < n ∧ k ∉ nw ∧ ∃ o, l[k]? = some o ∧ o.dst = some t := by
    intro k t v hk
    have hkn : k < n := by rw [← hDl]; exact (List.getElem?_eq_some_iff.1 hk).1
    rw [← hD, List.getElem?_zip_eq_some] at hk
    obtain ⟨h1, _⟩ := hk
    rw [hget k hkn, Option.map_eq_some_iff] at h1
    obtain ⟨o, ho, hd⟩ := h1
    by_cases hnk : k ∈ nw
    · simp [hnk] at hd
    · rw [if_neg hnk] at hd
      exact ⟨hkn, hnk, o, ho, hd⟩
  have huniq : ∀ (j k : Nat) (t : Tmp) (u v : Value), k ≠ j → D[k]? = some (some t, u) → D[j]? ≠ some (some t, v) := by
    intro j k t u v hkj h1 h2
    obtain ⟨hkn, _, ok, hok', hdk⟩ := hDd k _ u h1
    obtain ⟨hjn, _, oj, hoj, hdj⟩ := hDd j _ v h2
    exact (g.pair k j ok oj t hkn hjn hkj (by simpa using hok') (by simpa using hoj) hdk).1 hdj
  -- .. with the new ones' values
  obtain ⟨F, hF⟩ : ∃ F : Sig → Nat → Option (Option Tmp × Value), ∀ σ k, F σ k = if k ∈ nw then (l[k]?).map fun o => (o.dst, (σ k).getD undef) else D[k]? := ⟨_, fun _ _ => rfl⟩
  have hFd : ∀ (σ : Sig) (k : Nat) (t : Tmp) (v : Value), F σ k = some (some t, v) → k < n ∧ ∃ o, l[k]? = some o ∧ o.dst = some t := by
    intro σ k t v hk
    rw [hF] at hk
    by_cases hnk : k ∈ nw
    · rw [if_pos hnk, Option.map_eq_some_iff] at hk
      obtain ⟨o, ho, hd⟩ := hk
      exact ⟨g.newLt k hnk, o, ho, by simp at hd; exact hd.1⟩
    · rw [if_neg hnk] at hk
      obtain ⟨h1, _, h3⟩ := hDd k t v hk
      exact ⟨h1, h3⟩
  have hFu : ∀ (σ : Sig) (j k : Nat) (t : Tmp) (u v : Value), k ≠ j → F σ k = some (some t, u) → F σ j ≠ some (some t, v) := by
    intro σ j k t u v hkj h1 h2
    obtain ⟨hkn, ok, hok', hdk⟩ := hFd σ k _ u h1
    obtain ⟨hjn, oj, hoj, hdj⟩ := hFd σ j _ v h2
    exact (g.pair k j ok oj t hkn hjn hkj (by simpa using hok') (by simpa using hoj) hdk).1 hdj
  have hend : ∀ (E : Nat → Prop) (a' : Act) (σ : Sig), (∀ k, k < n → E k) → Agree (F σ) E a a' → a' = putNew l nw σ (frames D a) := by
    intro E a' σ hall hA
    have hB := agree_frames D huniq a n (by omega)
    rw [List.take_of_length_le (by omega)] at hB
    obtain ⟨k1, k2⟩ := putNew_keeps l σ nw (frames D a)
    refine act_ext ?_ (hA.defers.trans (hB.defers.symm.trans k1.symm))
    apply Array.ext_getElem?
    intro t
    by_cases hts : t < a.tmps.size
    · by_cases hw : ∃ (k : Nat) (v : Value), F σ k = some (some t, v)
      · obtain ⟨k, v, hkv⟩ := hw
        obtain ⟨hkn, o, ho, hd⟩ := hFd σ k _ v hkv
        rw [hA.wrote k t v (hall k hkn) hkv hts]
        have hkv' := hkv
        rw [hF] at hkv
        by_cases hnk : k ∈ nw
        · rw [if_pos hnk, ho] at hkv
          simp at hkv
          rw [putNew_new l σ t k nw _ hnk (by simp [ho, hd]) (fun j hj hdj => ?_) (by rw [hB.size]; exact hts), hkv.2]
          by_cases hjk : j = k
          · exact hjk
          · exfalso
            cases hlj : l[j]? with
            | none => rw [hlj] at hdj; cases hdj
            | some oj =>
              rw [hlj] at hdj
              refine hFu σ j k t v ((σ j).getD undef) (Ne.symm hjk) hkv' ?_
              rw [hF, if_pos hj, hlj]
              simp at hdj
              simp [hdj]
        · rw [if_neg hnk] at hkv
          rw [putNew_old l σ t nw _ fun j hj hdj => ?_, hB.wrote k t v hkn hkv hts]
          cases hlj : l[j]? with
          | none => rw [hlj] at hdj; cases hdj
          | some oj =>
            rw [hlj] at hdj
            refine hFu σ j k t v ((σ j).getD undef) (fun e => hnk (e ▸ hj)) hkv' ?_
            rw [hF, if_pos hj, hlj]
            simp at hdj
            simp [hdj]
      · rw [hA.kept t fun k v _ hkv => hw ⟨k, v, hkv⟩, putNew_old l σ t nw _ fun j hj hdj => ?_, hB.kept t fun k v _ hkv => ?_]
        · obtain ⟨_, hnk, _⟩ := hDd k t v hkv
          exact hw ⟨k, v, by rw [hF, if_neg hnk]; exact hkv⟩
        · cases hlj : l[j]? with
          | none => rw [hlj] at hdj; cases hdj
          | some oj =>
            rw [hlj] at hdj
            refine hw ⟨j, (σ j).getD undef, ?_⟩
            rw [hF, if_pos hj, hlj]
            simp at hdj
            simp [hdj]
    · rw [Array.getElem?_eq_none (show a'.tmps.size ≤ t from by rw [hA.size]; exact Nat.le_of_not_lt hts), Array.getElem?_eq_none (show (putNew l nw σ (frames D a)).tmps.size ≤ t from by rw [k2, hB.size]; exact Nat.le_of_not_lt hts)]
  have main : ∀ (fuel : Nat) (listed : Array Bool) (a' : Act) (w' : World) (σ : Sig), listed.size = l.length → left listed = fuel → (∀ j, n ≤ j → j < l.length → listed.getD j true = false) →
      (∀ k o, k < l.length → listed.getD k true = true → l[k]? = some o → ∀ e ∈ o.after, Region.binds .any e = true → listed.getD e.on false = true) →
      (∀ k ∈ nw, listed.getD k true = true → (σ k).isSome = true) → (∀ k ∈ tw, (listed.getD k true = true → (σ k).isSome = true) ∧ (listed.getD k true = false → σ k = none)) → (∀ p ∈ pre, listed.getD p true = true) →
      Agree (F σ) (fun k => k < n ∧ listed.getD k true = true) a a' → S σ w' → wpAny P .any l.toArray Q fuel listed a' w' := by
    intro fuel
    induction fuel with
    | zero =>
      intro listed a' w' σ hs hl ht hc hσ hτ hP hA hSw
      have hall : ∀ k, k < l.length → listed.getD k true = true := fun k hk => by
        cases hkk : listed.getD k true with
        | true => rfl
        | false => have := left_pos (j := k) (by omega) hkk; omega
      have hn : n = l.length := by
        rcases Nat.lt_or_ge n l.length with h | h
        · have := hall n h; rw [ht n (Nat.le_refl _) h] at this; cases this
        · omega
      refine tail_any g 0 n listed a' w' hs (Nat.le_refl _) (fun k _ hk => hall k hk) ht hl ?_
      rw [hend _ a' σ (fun k hk => ⟨hk, hall k (by omega)⟩) hA]
      exact hR σ w' (fun k hk => hσ k hk (hall k (by have := g.newLt k hk; omega))) (fun k hk => (hτ k hk).1 (hall k (by have := (htw k hk).1; omega))) hSw
    | succ fuel ih =>
      intro listed a' w' σ hs hl ht hc hσ hτ hP hA hSw
      by_cases hpre : ∀ k, k < n → listed.getD k true = true
      · refine tail_any g (fuel + 1) n listed a' w' hs (Nat.le_refl _) (fun k hk _ => hpre k hk) ht hl ?_
        rw [hend _ a' σ (fun k hk => ⟨hk, hpre k hk⟩) hA]
        exact hR σ w' (fun k hk => hσ k hk (hpre k (g.newLt k hk))) (fun k hk => (hτ k hk).1 (hpre k (htw k hk).1)) hSw
      · -- the least that is not listed is ready
        have hex : ∃ k, k < n ∧ listed.getD k true = false := by
          rcases Classical.em (∃ k, k < n ∧ listed.getD k true = false) with h | h
          · exact h
          · exact absurd (fun k hk => by
              cases hkk : listed.getD k true with
              | true => rfl
              | false => exact absurd ⟨k, hk, hkk⟩ h) hpre
        obtain ⟨m, hm, hmin⟩ : ∃ m, (m < n ∧ listed.getD m true = false) ∧ ∀ k, k < m → listed.getD k true = true := by
          obtain ⟨k, hk⟩ := hex
          induction k using Nat.strongRecOn with
          | _ k ihk =>
            rcases Classical.em (∃ j, j < k ∧ listed.getD j true = false) with ⟨j, hj, hjl⟩ | h
            · exact ihk j hj ⟨by omega, hjl⟩
            · refine ⟨k, hk, fun j hj => ?_⟩
              cases hjj : listed.getD j true with
              | true => rfl
              | false => exact absurd ⟨j, hj, hjj⟩ h
        obtain ⟨om, hom⟩ : ∃ o, l[m]? = some o := ⟨_, List.getElem?_eq_getElem (by omega)⟩
        have hready : m ∈ Region.ready .any l.toArray listed := mem_ready.2 ⟨by simp; omega, hm.2, om, by simpa using hom, fun e he hb => by
          have := g.low m om (by simpa using hom) e he hb
          rw [← getD_tf (by omega)]
          exact hmin _ this⟩
        refine ⟨fun h => (by rw [h] at hready; cases hready), fun i hi => ?_⟩
        obtain ⟨hi1, hi2, o, ho, hi3⟩ := mem_ready.1 hi
        have hi1 : i < l.length := by simpa using hi1
        have hol : l[i]? = some o := by simpa using ho
        have hin : i < n := by
          rcases Nat.lt_trichotomy i n with h | h | h
          · exact h
          · -- all that it waits for, and so all, are listed
            subst h
            have hall : ∀ d k, i - k = d → k < i → listed.getD k true = true := by
              intro d
              induction d using Nat.strongRecOn with
              | _ d ihd =>
                intro k hd hk
                by_cases hpk : k ∈ pre
                · exact hP k hpk
                obtain ⟨j, hkj, hji, oj, hoj, hwj⟩ := g.sink (by simpa using hi1) k hk hpk
                obtain ⟨e, he, hb, heq⟩ := waits_spec hwj
                rw [getD_tf (by omega), ← heq]
                rcases Nat.lt_or_ge j i with hlt | hge
                · have hjl := ihd (i - j) (by omega) j rfl hlt
                  exact hc j oj (by omega) hjl (by simpa using hoj) e he hb
                · have : j = i := by omega
                  subst this
                  rw [ho] at hoj
                  cases hoj
                  exact hi3 e he hb
            have := hall _ m rfl hm.1
            rw [hm.2] at this
            cases this
          · obtain ⟨e, he, hb, heq⟩ := waits_spec (g.chain i o h (by simpa using hol))
            have := hi3 e he hb
            rw [heq, ← getD_tf (by omega), ht (i - 1) (by omega) (by omega)] at this
            cases this
        obtain ⟨v, hv, hcase⟩ := hk i o (by simp [hin, hol])
        have hAi := agree_frames D huniq a i (by omega)
        have hsame := same_op (ops := l.toArray) (o := o) (a := frames (D.take i) a) (a' := a') (g.noSel i o ho) (by
          intro t htl
          by_cases hw : ∃ (k : Nat) (u : Value), F σ k = some (some t, u)
          · obtain ⟨k, u, hku⟩ := hw
            obtain ⟨hkn, ok, hok', hdk⟩ := hFd σ k _ u hku
            have hnk : k ∉ nw := fun hnk => g.newApart k hnk ok t (by simpa using hok') hdk i o hin ho htl
            have hDu : D[k]? = some (some t, u) := by rw [hF, if_neg hnk] at hku; exact hku
            by_cases hts : t < a.tmps.size
            · have hki : k ≠ i := fun e => by
                subst e
                rw [hol] at hok'
                cases hok'
                exact g.own k o t hkn ho hdk htl
              rcases (g.pair k i ok o t hkn hin hki (by simpa using hok') ho hdk).2 with h1 | ⟨hlt, hwt⟩ | ⟨hlt, hwt⟩
              · exact absurd htl h1
              · obtain ⟨e, he, hb, heq⟩ := waits_spec hwt
                have hkl : listed.getD k true = true := by
                  rw [getD_tf (by omega), ← heq]; exact hi3 e he hb
                rw [hA.wrote k t u ⟨hkn, hkl⟩ hku hts, hAi.wrote k t u hlt hDu hts]
              · obtain ⟨e, he, hb, heq⟩ := waits_spec hwt
                have hkl : ¬ listed.getD k true = true := fun hkl => by
                  have := hc k ok (by omega) hkl hok' e he hb
                  rw [heq, ← getD_tf (by omega), hi2] at this
                  cases this
                rw [hA.kept t fun k' u' hk' hD' => ?_, hAi.kept t fun k' u' hk' hD' => ?_]
                · by_cases hkk : k' = k
                  · subst hkk; omega
                  · exact huniq k k' t u' u hkk hD' hDu
                · by_cases hkk : k' = k
                  · subst hkk; exact hkl hk'.2
                  · exact hFu σ k k' t u' u hkk hD' hku
            · rw [Array.getElem?_eq_none (show a'.tmps.size ≤ t from by rw [hA.size]; exact Nat.le_of_not_lt hts), Array.getElem?_eq_none (show (frames (D.take i) a).tmps.size ≤ t from by rw [hAi.size]; exact Nat.le_of_not_lt hts)]
          · rw [hA.kept t fun k v _ hkv => hw ⟨k, v, hkv⟩, hAi.kept t fun k v _ hkv => ?_]
            obtain ⟨_, hnk, _⟩ := hDd k t v hkv
            exact hw ⟨k, v, by rw [hF, if_neg hnk]; exact hkv⟩)
        have hset : ∀ k b, (listed.setIfInBounds i true).getD k b = if k = i then true else listed.getD k b := by
          intro k b
          by_cases hki : k = i
          · subst hki; simp [hs, hi1]
          · have : i ≠ k := Ne.symm hki
            simp [Array.getElem?_setIfInBounds_ne this, hki]
        have next : ∀ (σ' : Sig) (u : Value) w'', F σ' i = some (o.dst, u) → Agree (F σ') (fun k => k < n ∧ listed.getD k true = true) a a' → (∀ k ∈ nw, (listed.setIfInBounds i true).getD k true = true → (σ' k).isSome = true) → (∀ k ∈ tw, ((listed.setIfInBounds i true).getD k true = true → (σ' k).isSome = true) ∧ ((listed.setIfInBounds i true).getD k true = false → σ' k = none)) → S σ' w'' →
            wpAny P .any l.toArray Q fuel (listed.setIfInBounds i true) (a'.put o.dst u) w'' := by
          intro σ' u w'' hFi hA' hσ' hτ' hSw''
          refine ih _ _ w'' σ' (by simpa using hs) (by have := left_set (j := i) (by omega) hi2; omega) ?_ ?_ hσ' hτ' (fun p hp => by rw [hset]; split <;> first | rfl | exact hP p hp) ?_ hSw''
          · intro j hj hjl
            rw [hset, if_neg (by omega)]
            exact ht j hj hjl
          · intro k ok hkl hkt hok' e he hb
            rw [hset]
            split
            · rfl
            · rw [hset] at hkt
              by_cases hki : k = i
              · subst hki
                rw [hol] at hok'
                cases hok'
                exact hi3 e he hb
              · rw [if_neg hki] at hkt
                exact hc k ok hkl hkt hok' e he hb
          · have := hA'.put (j := i) hFi (fun k t u' hki hD' e => hFu σ' i k t u' u hki hD' (by rw [hFi, e]))
            refine ⟨this.defers, this.size, fun k t u hk => this.wrote k t u ?_, fun t ht => this.kept t fun k u hk => ht k u ?_⟩
            · obtain ⟨h1, h2⟩ := hk
              rw [hset] at h2
              by_cases hki : k = i
              · exact .inr hki
              · rw [if_neg hki] at h2; exact .inl ⟨h1, h2⟩
            · rw [hset]
              rcases hk with ⟨h1, h2⟩ | rfl
              · exact ⟨h1, by split <;> first | rfl | exact h2⟩
              · exact ⟨hin, by simp⟩
        have hσset : i ∉ nw → ∀ k ∈ nw, (listed.setIfInBounds i true).getD k true = true → (σ k).isSome = true := fun hni k hk hkl => by
          rw [hset, if_neg (fun (e : k = i) => hni (e ▸ hk))] at hkl
          exact hσ k hk hkl
        have hτset : i ∉ tw → ∀ k ∈ tw, ((listed.setIfInBounds i true).getD k true = true → (σ k).isSome = true) ∧ ((listed.setIfInBounds i true).getD k true = false → σ k = none) := fun hni k hk => by
          rw [hset, if_neg (fun (e : k = i) => hni (e ▸ hk))]
          exact hτ k hk
        unfold wpOp
        simp only [ho]
        rcases hcase with ⟨hni, hn1⟩ | ⟨hni, hw1, hc1⟩ | ⟨hni, hw1, rfl⟩
        · have hg := g.newPlain i hni o ho
          rw [show Region.wanted o (yielded l.toArray a'.tmps) = true by simp [Region.wanted, hg]]
          refine .inl (hn1.at hsame.1 (by rw [hAi.size, hA.size]) hSw _ _ fun u w'' hSu => ?_)
          refine next (σ.upd i u) u w'' (by rw [hF, if_pos hni, hol]; simp [Sig.upd]) ?_ ?_ ?_ hSu
          · have hne : ∀ k, (k < n ∧ listed.getD k true = true) → F (σ.upd i u) k = F σ k := fun k hk => by
              have hki : k ≠ i := fun e => by subst e; rw [hi2] at hk; cases hk.2
              rw [hF, hF]
              simp [Sig.upd, hki]
            exact ⟨hA.defers, hA.size, fun k t u' hk hD' => hA.wrote k t u' hk (by rw [← hne k hk]; exact hD'), fun t ht => hA.kept t fun k u' hk => by rw [← hne k hk]; exact ht k u' hk⟩
          · intro k hk hkl
            by_cases hki : k = i
            · simp [Sig.upd, hki]
            · rw [hset, if_neg hki] at hkl
              simpa [Sig.upd, hki] using hσ k hk hkl
          · intro k hk
            have hki : k ≠ i := fun e => (htw k hk).2.1 (e ▸ hni)
            rw [hset, if_neg hki]
            simpa [Sig.upd, hki] using hτ k hk
        · rw [hsame.2, hw1]
          by_cases hit : i ∈ tw
          · refine .inl (hc1.at hsame.1 (by rw [hAi.size, hA.size]) hSw (fun hit => (hτ i hit).2 hi2) _ _ fun w'' hSu => next (σ.upd i v) v w'' (by rw [hF, if_neg hni]; exact hDk i o v hin hni hol hv) ?_ ?_ ?_ (by rw [trk, if_pos hit] at hSu; exact hSu))
            · have hne : ∀ k, (k < n ∧ listed.getD k true = true) → F (σ.upd i v) k = F σ k := fun k hk => by
                have hki : k ≠ i := fun e => by subst e; rw [hi2] at hk; cases hk.2
                rw [hF, hF]
                simp [Sig.upd, hki]
              exact ⟨hA.defers, hA.size, fun k t u' hk hD' => hA.wrote k t u' hk (by rw [← hne k hk]; exact hD'), fun t ht => hA.kept t fun k u' hk => by rw [← hne k hk]; exact ht k u' hk⟩
            · intro k hk hkl
              by_cases hki : k = i
              · simp [Sig.upd, hki]
              · rw [hset, if_neg hki] at hkl
                simpa [Sig.upd, hki] using hσ k hk hkl
            · intro k hk
              rw [hset]
              by_cases hki : k = i
              · simp [Sig.upd, hki]
              · rw [if_neg hki]
                simpa [Sig.upd, hki] using hτ k hk
          · exact .inl (hc1.at hsame.1 (by rw [hAi.size, hA.size]) hSw (fun hit => (hτ i hit).2 hi2) _ _ fun w'' hSu => next σ v w'' (by rw [hF, if_neg hni]; exact hDk i o v hin hni hol hv) hA (hσset hni) (hτset hit) (by rw [trk, if_neg hit] at hSu; exact hSu))
        · rw [hsame.2, hw1]
          have hit : i ∉ tw := fun hit => by
            have := (htw i hit).2.2.2 o hol
            simp [Region.wanted, this] at hw1
          exact next σ undef w' (by rw [hF, if_neg hni]; exact hDk i o undef hin hni hol hv) hA (hσset hni) (hτset hit) hSw
  refine main _ listed0 a0 w Sig.no hs0 rfl (fun j hnj hj => ?_) (fun k o hk hkt ho e he hb => ?_) (fun k hk hkt => ?_) (fun k hk => ?_) hp0 ?_ hS
  · cases hjj : listed0.getD j true with
    | false => rfl
    | true =>
      have := (g.preAny j (hl0 j hj hjj)).1
      omega
  · obtain ⟨_, _, o', ho', _, haf⟩ := g.preAny k (hl0 k hk hkt)
    obtain rfl : o' = o := by simpa [ho] using ho'.symm
    have := g.low k o' (by simpa using ho) e he hb
    rw [← getD_tf (by omega)]
    exact hp0 _ (haf e he hb)
  · exact absurd hk (g.preAny k (hl0 k (by have := g.newLt k hk; omega) hkt)).2.1
  · exact ⟨fun hkt => absurd (hl0 k (by have := (htw k hk).1; omega) hkt) (htw k hk).2.2.1, fun _ => rfl⟩
  · have step : ∀ (r done : List Nat) (a1 : Act), preOk l.toArray n nw done r = true → PreRun P l r a1 a0 → Agree (F Sig.no) (fun k => k ∈ done) a a1 →
        (∀ k ∈ done, ∀ o, l[k]? = some o → ∀ e ∈ o.after, Region.binds .any e = true → e.on ∈ done) → Agree (F Sig.no) (fun k => k ∈ r ∨ k ∈ done) a a0 := by
      intro r
      induction r with
      | nil =>
        intro done a1 _ hr hA _
        obtain rfl : a0 = a1 := hr
        simpa using hA
      | cons p r ih =>
        intro done a1 hpo hr hA hcl
        obtain ⟨hpn, hpw, hpd, ⟨o, hop, hgd, haf⟩, hpo'⟩ := preOk_cons hpo
        have hop : l[p]? = some o := by simpa using hop
        obtain ⟨o', v, ho', hrun, hr'⟩ := hr
        obtain rfl : o' = o := by simpa [hop] using ho'.symm
        obtain ⟨u, hu, hcase⟩ := hk p o' (by simp [hpn, hop])
        have hAi := agree_frames D huniq a p (by omega)
        have hsame := same_op (ops := l.toArray) (o := o') (a := a1) (a' := frames (D.take p) a) (g.noSel p o' (by simpa using hop)) (by
          intro t htl
          by_cases hts : t < a.tmps.size
          · by_cases hw : ∃ (k : Nat) (u : Value), F Sig.no k = some (some t, u)
            · obtain ⟨k, x, hkx⟩ := hw
              obtain ⟨hkn, ok, hok', hdk⟩ := hFd Sig.no k _ x hkx
              have hnk : k ∉ nw := fun hnk => g.newApart k hnk ok t (by simpa using hok') hdk p o' hpn (by simpa using hop) htl
              have hDu : D[k]? = some (some t, x) := by rw [hF, if_neg hnk] at hkx; exact hkx
              have hkp : k ≠ p := fun e => by
                subst e
                rw [hop] at hok'
                cases hok'
                exact g.own k o' t hkn (by simpa using hop) hdk htl
              rcases (g.pair k p ok o' t hkn hpn hkp (by simpa using hok') (by simpa using hop) hdk).2 with h1 | ⟨hlt, hwt⟩ | ⟨hlt, hwt⟩
              · exact absurd htl h1
              · obtain ⟨e, he, hb, heq⟩ := waits_spec hwt
                have hkd : k ∈ done := heq ▸ haf e he hb
                rw [hA.wrote k t x hkd hkx hts, hAi.wrote k t x hlt hDu hts]
              · obtain ⟨e, he, hb, heq⟩ := waits_spec hwt
                have hkd : k ∉ done := fun hkd => hpd (heq ▸ hcl k hkd ok hok' e he hb)
                rw [hA.kept t fun k' u' hk' hD' => ?_, hAi.kept t fun k' u' hk' hD' => ?_]
                · by_cases hkk : k' = k
                  · subst hkk; omega
                  · exact huniq k k' t u' x hkk hD' hDu
                · by_cases hkk : k' = k
                  · subst hkk; exact hkd hk'
                  · exact hFu Sig.no k k' t u' x hkk hD' hkx
            · rw [hA.kept t fun k v _ hkv => hw ⟨k, v, hkv⟩, hAi.kept t fun k v _ hkv => ?_]
              obtain ⟨_, hnk, _⟩ := hDd k t v hkv
              exact hw ⟨k, v, by rw [hF, if_neg hnk]; exact hkv⟩
          · rw [Array.getElem?_eq_none (show (frames (D.take p) a).tmps.size ≤ t from by rw [hAi.size]; exact Nat.le_of_not_lt hts), Array.getElem?_eq_none (show a1.tmps.size ≤ t from by rw [hA.size]; exact Nat.le_of_not_lt hts)])
        have hput : a1.put o'.dst v = a1.put o'.dst u := by
          rcases hcase with ⟨hni, _⟩ | ⟨_, _, hc1⟩ | ⟨_, hw1, _⟩
          · exact absurd hni hpw
          · have h1 := hc1.at (a' := a1) hsame.1.symm (by rw [hAi.size, hA.size]) hS (fun _ => rfl) (fun a2 _ => a2 = a1.put o'.dst u) (fun _ _ _ => False) (fun _ _ => rfl)
            unfold Oper.wp at h1
            rw [hrun w] at h1
            simpa only [Oper.upon] using h1
          · exfalso
            simp [Region.wanted, hgd] at hw1
        rw [hput] at hr'
        have hFp : F Sig.no p = some (o'.dst, u) := by rw [hF, if_neg hpw]; exact hDk p o' u hpn hpw hop hu
        have hA' := hA.put (j := p) hFp (fun k t u' hki hD' e => hFu Sig.no p k t u' u hki hD' (by rw [hFp, e]))
        have hA2 : Agree (F Sig.no) (fun k => k ∈ p :: done) a (a1.put o'.dst u) :=
          ⟨hA'.defers, hA'.size, fun k t x hk => hA'.wrote k t x (by
            rcases List.mem_cons.1 hk with h | h
            · exact .inr h
            · exact .inl h), fun t ht => hA'.kept t fun k x hk => ht k x (by
            rcases hk with h | h
            · exact List.mem_cons_of_mem _ h
            · exact h ▸ List.mem_cons_self ..)⟩
        have := ih (p :: done) _ hpo' hr' hA2 (fun k hk o ho e he hb => by
          rcases List.mem_cons.1 hk with rfl | hk
          · rw [hop] at ho
            cases ho
            exact List.mem_cons_of_mem _ (haf e he hb)
          · exact List.mem_cons_of_mem _ (hcl k hk o ho e he hb))
        refine ⟨this.defers, this.size, fun k t x hk => this.wrote k t x ?_, fun t ht => this.kept t fun k x hk => ht k x ?_⟩
        · rcases hk with hk | hk
          · rcases List.mem_cons.1 hk with rfl | hk
            · exact .inr (List.mem_cons_self ..)
            · exact .inl hk
          · exact .inr (List.mem_cons_of_mem _ hk)
        · rcases hk with hk | hk
          · exact .inl (List.mem_cons_of_mem _ hk)
          · rcases List.mem_cons.1 hk with rfl | hk
            · exact .inl (List.mem_cons_self ..)
            · exact .inr hk
    have h0 : Agree (F Sig.no) (fun k => k ∈ ([] : List Nat)) a a := ⟨rfl, rfl, fun k t v hk _ _ => (by cases hk), fun t _ => rfl⟩
    have := step pre [] a g.preOrd ha0 h0 (fun k hk => by cases hk)
    refine ⟨this.defers, this.size, fun k t x hk => this.wrote k t x (.inl (hl0 k (by omega) hk.2)), fun t ht => this.kept t fun k x hk => ht k x ?_⟩
    rcases hk with hk | hk
    · exact ⟨(g.preAny k hk).1, hp0 k hk⟩
    · cases hk

theorem wp_region_new {id : Nat} {Q : Exit → Act → World → Prop} {a : Act} {w : World} {l : List Oper} (S : Sig → World → Prop) (n : Nat) (nw tw : List Nat) (htw : ∀ k ∈ tw, k < n ∧ k ∉ nw ∧ ∀ o, l[k]? = some o → o.guard = none) (hm : P.follows .mixedOrders = true) (hok : calmOk l.toArray n nw = true) (hS : S Sig.no w.drew)
    (h : calm P l.toArray S nw tw (fun a' => ∀ σ w', (∀ k ∈ nw, (σ k).isSome = true) → (∀ k ∈ tw, (σ k).isSome = true) → S σ w' → wpList P l.toArray Q (l.drop n) (putNew l nw σ a') w') 0 (l.take n) a) : (Code.region id l.toArray true).wp P Q a w := by
  refine wp_region_any hm ?_
  have hl := left_none l.toArray.size
  have := wpAny_new (a0 := a) S n nw tw [] (fun k hk => ⟨(htw k hk).1, (htw k hk).2.1, by simp, (htw k hk).2.2⟩) hok hS h (Array.replicate l.toArray.size false) (by simp) (fun k hk hkt => by simp [hk] at hkt) (fun p hp => by cases hp) rfl
  rw [hl] at this
  exact this


theorem calm_value {R : Act → Prop} {a : Act} {o : Oper} {rest : List Oper} {i : Nat} {v : Value} (hi : i ∉ nw) (ht : i ∉ tw) (hw : Region.wanted o (yielded ops a.tmps) = true) (h1 : ∀ σ w, S σ w → (execOp a.eval o).run P w = .ok (.value v) w) (h : calm P ops S nw tw R (i + 1) rest (a.put o.dst v)) : calm P ops S nw tw R i (o :: rest) a :=
  calm_step v hi hw (fun σ w hS _ K Q hK => by unfold Oper.wp; rw [h1 σ w hS]; exact hK w (by rw [trk, if_neg ht]; exact hS)) h
theorem calm_track {R : Act → Prop} {a : Act} {o : Oper} {rest : List Oper} {i : Nat} {v : Value} (hi : i ∉ nw) (ht : i ∈ tw) (hw : Region.wanted o (yielded ops a.tmps) = true) (h1 : ∀ σ w, S σ w → σ i = none → ∃ w', (execOp a.eval o).run P w = .ok (.value v) w' ∧ S (σ.upd i v) w') (h : calm P ops S nw tw R (i + 1) rest (a.put o.dst v)) : calm P ops S nw tw R i (o :: rest) a :=
  calm_step v hi hw (fun σ w hS hf K Q hK => by
    obtain ⟨w', hr, hs⟩ := h1 σ w hS (hf ht)
    unfold Oper.wp
    rw [hr]
    exact hK w' (by rw [trk, if_pos ht]; exact hs)) h
end
end Go.Proofs.Ytnebacnmbigaaaa.Trk
/- A call that changes what there is, in a region that draws its order. -/
namespace Go.Proofs.Ytnebacnmbigaaaa

section
variable {P : Program} {ops : Array Oper} {S : Sig → World → Prop} {nw tw : List Nat} {R : Act → Prop} {a : Act} {o : Oper} {rest : List Oper} {i : Nat}
/-- A call whose value is known, of which S is told. -/
theorem kcalm_call {v : Value} {f : FuncId} {args : Array Value} (hi : i ∉ nw) (hit : i ∈ tw) (hw : Region.wanted o (yielded ops a.tmps) = true) (hr : ∀ w, (execOp a.eval o).run P w = .ok (.enter f args) w)
    (hc : ∀ σ w, S σ w → σ i = none → Calls P f args w fun e w' => e = .returned v ∧ S (σ.upd i v) w') (h : Trk.calm P ops S nw tw R (i + 1) rest (a.put o.dst v)) : Trk.calm P ops S nw tw R i (o :: rest) a :=
  Trk.calm_step v hi hw (fun σ w hS hf K Q hK => by
    unfold Oper.wp
    rw [hr w]
    refine (hc σ w hS (hf hit)).mono ?_
    rintro e w' ⟨rfl, hS'⟩
    exact hK w' (by rw [Trk.trk, if_pos hit]; exact hS')) h
end
section
variable {P : Program} {ops : Array Oper} {S : Sig → World → Prop} {nw : List Nat} {R : Act → Prop} {a : Act} {o : Oper} {rest : List Oper} {i : Nat}
theorem ncalm_call {f : FuncId} {args : Array Value} (hi : i ∈ nw) (hr : ∀ w, (execOp a.eval o).run P w = .ok (.enter f args) w)
    (hc : ∀ σ w, S σ w → Calls P f args w fun e w' => ∃ v, e = .returned v ∧ S (σ.upd i v) w') (h : calm P ops S nw R (i + 1) rest a) : calm P ops S nw R i (o :: rest) a :=
  calm_new hi (fun σ w hS K Q hK => by
    unfold Oper.wp
    rw [hr w]
    refine (hc σ w hS).mono ?_
    rintro e w' ⟨v, rfl, hS'⟩
    exact hK v w' hS') h
end
end Go.Proofs.Ytnebacnmbigaaaa
/- inflate: the walks of length, dist. -/
namespace Go.Proofs.Ytnebacnmbigaaaa
open Go.RowKit

def lenG (bs : List Bool) (c : Int) (n : Nat) : Got Int := if 285 < c then .bad 2 else (takeG bs (lenT0 c.toNat).2 n).bind fun v m => .ok ((lenT0 c.toNat).1 + v) m
def distG (bs : List Bool) (k : Int) (n : Nat) : Got Int := if 29 < k then .bad 2 else (takeG bs (distT0 k.toNat).2 n).bind fun v m => .ok ((distT0 k.toNat).1 + v) m
theorem takeG_zero {bs : List Bool} {n : Nat} (h : n ≤ bs.length) : takeG bs 0 n = .ok 0 n := by
  unfold takeG
  rw [if_pos (by omega)]
  simp [valOf]
theorem lenT0_small (i : Nat) (h : i < 8) : lenT0 (257 + i) = (3 + i, 0) := by
  have : ∀ i : Fin 8, lenT0 (257 + i.val) = (3 + i.val, 0) := by decide
  exact this ⟨i, h⟩
theorem lenT0_mid (i : Nat) (h : i < 20) : lenT0 (265 + i) = (3 + (4 + i % 4) * 2 ^ (i / 4 + 1), i / 4 + 1) := by
  have : ∀ i : Fin 20, lenT0 (265 + i.val) = (3 + (4 + i.val % 4) * 2 ^ (i.val / 4 + 1), i.val / 4 + 1) := by decide
  exact this ⟨i, h⟩
theorem lenT0_last : lenT0 285 = (258, 0) := rfl
theorem tk_got {s : ByteArray} {n k : Nat} (hk : k ≤ 62) (hn : n ≤ 8 * s.size) : GotR (takeG (textBits s) k n) (tkV s n k) (tkN s n k) (if tkOk s n k then 0 else 2) ∧ tkN s n k ≤ 8 * s.size ∧ 0 ≤ tkV s n k := by
  refine ⟨?_, tkN_le hn, ?_⟩
  · unfold takeG
    rw [textBits_length]
    by_cases h : tkOk s n k
    · have h' := h
      unfold tkOk at h'
      rw [if_pos (by omega), if_pos h]
      unfold tkV tkN
      rw [if_pos h, if_pos h]
      exact ⟨by simp, by simp, rfl⟩
    · have h' := h
      unfold tkOk at h'
      rw [if_neg (by omega), if_neg h]
      rfl
  · unfold tkV
    split
    · exact (valOf_bd _).1
    · omega
theorem tkV_lt {s : ByteArray} {n k : Nat} (hk : k ≤ 16) : tkV s n k < 65536 := by
  unfold tkV
  split
  · have h := valOf_bd (((textBits s).drop n).take (k : Int).toNat)
    refine Int.lt_of_lt_of_le h.2 ?_
    have hl : (((textBits s).drop n).take (k : Int).toNat).length ≤ 16 := by simp; omega
    exact pow2_le hl
  · omega

theorem tdiv_nat {a : Int} {b : Int} (ha : 0 ≤ a) : a.tdiv b = a / b := Int.tdiv_eq_ediv_of_nonneg ha
/-- What is taken behind something that was told: the first fault stands. -/
def tkE (s : ByteArray) (n : Nat) (k : Int) (e : Int) : Int := if tkOk s n k then e else if e = 0 then 2 else e

set_option maxRecDepth 100000 in
set_option maxHeartbeats 1600000 in
theorem inlength_mid {w0 w : World} {ps : List Piece} {g rg n : Nat} {s : ByteArray} {out : List Int} {most e : Int} (i : Nat) (hi : i < 20) (hs : s.size ≤ 1000000) (hn : n ≤ 8 * s.size) (H : Own w0 w (Inr g rg s n out most e :: ps)) :
    Calls Try.prog 54 #[.pointer (some ⟨g, 0, none⟩), .int .i64 ((265 + i : Nat) : Int)] w (Ret fun r w' => r = .int .i64 ((lenT0 (265 + i)).1 + tkV s n ((lenT0 (265 + i)).2 : Nat)) ∧ Own w0 w' (Inr g rg s (tkN s n ((lenT0 (265 + i)).2 : Nat)) out most (tkE s n ((lenT0 (265 + i)).2 : Nat) e) :: ps)) := by
  rw [lenT0_mid i hi]
  obtain ⟨j, hj⟩ : ∃ j, Hid (i / 4 + 1 = j) := ⟨_, rfl⟩
  have hj1 : 1 ≤ j ∧ j ≤ 5 := by have := hj.out; omega
  simp only
  rw [hj.out]
  have hV := (tk_got (s := s) (n := n) (k := j) (by omega) hn).2.2
  have hV2 := tkV_lt (s := s) (n := n) (k := j) (by omega)
  have HT : ∀ wz, Own w0 wz (Inr g rg s n out most e :: ps) → _ := fun wz h => intake_tk j (by omega) h hs hn
  replace HT := Lib.hid HT
  obtain ⟨V, hv⟩ : ∃ V, Hid (tkV s n j = V) := ⟨_, rfl⟩
  obtain ⟨M, hm⟩ : ∃ M, Hid (tkN s n j = M) := ⟨_, rfl⟩
  obtain ⟨E, hE⟩ : ∃ E, Hid (tkE s n j e = E) := ⟨_, rfl⟩
  have hE2 : (if tkOk s n j then e else if e = 0 then 2 else e) = E := hE.out
  rw [hv.out, hm.out, hE2] at HT
  rw [hv.out] at hV hV2
  rw [hv.out, hm.out, hE.out]
  clear hE2
  obtain ⟨q, hq⟩ : ∃ q : Nat, Hid (i % 4 = q) := ⟨_, rfl⟩
  have hq4 : q ≤ 3 := by have := hq.out; omega
  rw [hq.out]
  obtain ⟨c, hc⟩ : ∃ c : Nat, Hid (265 + i = c) := ⟨_, rfl⟩
  rw [hc.out]
  have hc1 : 265 ≤ c ∧ c ≤ 284 := by have := hc.out; omega
  obtain ⟨hc1, hc2⟩ := hc1
  have hlt : ¬ (c : Int) < 265 := by omega
  have heq : ((c : Int) == 285) = false := by simp; omega
  have hgt : ¬ 285 < (c : Int) := by omega
  have d1 : ((c : Int) - 261) / 4 = (j : Int) := by have := hc.out; have := hj.out; omega
  have d2 : ((c : Int) - 265).tmod 4 = (q : Int) := by have := hc.out; have := hq.out; rw [Int.tmod_eq_emod_of_nonneg (by omega)]; omega
  have d3 : ((c : Int) - 265) % 4 = (q : Int) := by have := hc.out; have := hq.out; omega
  obtain ⟨b, hb⟩ : ∃ b : Nat, Hid ((4 + q) * 2 ^ j = b) := ⟨_, rfl⟩
  have hb1 : b ≤ 224 := by
    rw [← hb.out]
    calc (4 + q) * 2 ^ j ≤ 7 * 2 ^ 5 := Nat.mul_le_mul (by omega) (Nat.pow_le_pow_right (by omega) hj1.2)
      _ = 224 := rfl
  rw [hb.out]
  have d4 : (4 + (q : Int)) * 2 ^ j = (b : Int) := by rw [← hb.out, Int.natCast_mul, Int.natCast_pow]; rfl
  have d5 : IntKind.i64.wrap (b : Int) = (b : Int) := IntWalk.i64_in _ ⟨by omega, by omega⟩
  have d6 : IntKind.i64.wrap (4 + (q : Int)) = 4 + (q : Int) := IntWalk.i64_in _ ⟨by omega, by omega⟩
  have d7 : IntKind.i64.wrap (3 + (b : Int)) = 3 + (b : Int) := IntWalk.i64_in _ ⟨by omega, by omega⟩
  have d8 : IntKind.i64.wrap ((c : Int) - 261) = (c : Int) - 261 := IntWalk.i64_in _ ⟨by omega, by omega⟩
  have d9 : IntKind.i64.wrap ((c : Int) - 265) = (c : Int) - 265 := IntWalk.i64_in _ ⟨by omega, by omega⟩
  have d10 : IntKind.i64.wrap (q : Int) = (q : Int) := IntWalk.i64_in _ ⟨by omega, by omega⟩
  have d11 : (j : Int) < 64 := by omega
  have d12 : ¬ (j : Int) < 0 := by omega
  have d13 : IntKind.i64.wrap (3 + (b : Int) + V) = 3 + (b : Int) + V := IntWalk.i64_in _ ⟨by omega, by omega⟩
  clear hj1
  go_enter Try.func54, Try.ntmps54
  go_upto_region 9 with (fail)
  refine Trk.wp_region_new (fun σ w1 => Own w0 w1 ((if (σ 9).isSome then Inr g rg s M out most E else Inr g rg s n out most e) :: ps)) 10 [] [9] (by intro k hk; simp at hk; subst hk; exact ⟨by omega, by simp, fun o ho => by simp at ho; subst ho; rfl⟩) (by kernel_rfl) (by kernel_rfl) H.drew ?_
  simp only [List.take_succ_cons, List.take_zero, List.drop_succ_cons, List.drop_zero]
  repeat
    first
    | (refine Trk.calm_value (v := ?_) (by decide) (by decide) rfl (fun σ w1 hS => ?_) ?_
       rotate_left
       · skip
         first | (go_simp; rfl) | rfl
       simp only [Act.put, List.setIfInBounds_toArray, List.set_cons_zero, List.set_cons_succ])
    | (refine Trk.calm_skip (by decide) rfl ?_
       simp only [Act.put, List.setIfInBounds_toArray, List.set_cons_zero, List.set_cons_succ])
  refine kcalm_call (v := .int .i64 V) (by decide) (by decide) rfl (fun w1 => (by go_simp; first | exact ⟨rfl, rfl⟩ | rfl)) (fun σ w1 hS hn => ?_) ?_
  · rw [hn] at hS
    refine (HT.out _ hS).mono ?_
    rintro e w2 ⟨_, rfl, rfl, h2⟩
    refine ⟨rfl, ?_⟩
    simpa [Sig.upd] using h2
  simp only [Act.put, List.setIfInBounds_toArray, List.set_cons_zero, List.set_cons_succ]
  refine Trk.calm_nil ?_
  intro σ wd _ hσ HD
  have h8 := hσ 9 (by decide)
  rw [if_pos h8] at HD
  clear H hσ h8
  simp only [putNew, List.foldl_nil]
  go_wp2
  go_ret
  exact ⟨_, rfl, by go_num, HD⟩
theorem tk_zero {s : ByteArray} {n : Nat} {e : Int} (hn : n ≤ 8 * s.size) : tkV s n ((0 : Nat) : Int) = 0 ∧ tkN s n ((0 : Nat) : Int) = n ∧ tkE s n ((0 : Nat) : Int) e = e := by
  have h : tkOk s n ((0 : Nat) : Int) := by unfold tkOk; omega
  unfold tkV tkN tkE
  rw [if_pos h, if_pos h, if_pos h]
  simp [valOf]
theorem tkE_ne {s : ByteArray} {n k : Nat} {e : Int} (h : e ≠ 0) : tkE s n k e = e := by
  unfold tkE
  split
  · rfl
  · rfl
/-- A number that is told, and bits more. -/
theorem add_got {s : ByteArray} {n k b : Nat} {e : Int} (hk : k ≤ 16) (hn : n ≤ 8 * s.size) (he : e = 0) : GotR ((takeG (textBits s) k n).bind fun v m => .ok (b + v) m) (b + tkV s n k) (tkN s n k) (tkE s n k e) := by
  subst he
  have h := (tk_got (s := s) (n := n) (k := k) (by omega) hn).1
  unfold takeG at h ⊢
  unfold tkE
  split at h
  · next hl =>
    obtain ⟨h1, h2, h3⟩ := h
    rw [if_pos hl, Got.bind_ok, h1, h2]
    refine ⟨rfl, rfl, ?_⟩
    split
    · rfl
    · next ho => rw [if_neg ho] at h3; omega
  · next hl =>
    have h3 : (if tkOk s n k then (0 : Int) else 2) = 2 := h
    rw [if_neg hl, Got.bind_ran]
    show _ = (2 : Int)
    split
    · next ho => rw [if_pos ho] at h3; omega
    · rfl

set_option maxRecDepth 100000 in
set_option maxHeartbeats 1600000 in
theorem inlength_any {w0 w : World} {ps : List Piece} {g rg n : Nat} {s : ByteArray} {out : List Int} {most e : Int} (c : Nat) (hc : 257 ≤ c) (hc2 : c ≤ 1000000) (hs : s.size ≤ 1000000) (hn : n ≤ 8 * s.size) (H : Own w0 w (Inr g rg s n out most e :: ps)) :
    Calls Try.prog 54 #[.pointer (some ⟨g, 0, none⟩), .int .i64 (c : Int)] w (Ret fun r w' => ∃ v n' e', r = .int .i64 v ∧ 0 ≤ v ∧ v ≤ 70000 ∧ n' ≤ 8 * s.size ∧ (e ≠ 0 → e' = e) ∧ (e' = 0 → 1 ≤ v) ∧ (e = 0 → GotR (lenG (textBits s) c n) v n' e') ∧ Own w0 w' (Inr g rg s n' out most e' :: ps)) := by
  by_cases h1 : c < 265
  · obtain ⟨i, rfl⟩ : ∃ i, c = 257 + i := ⟨c - 257, by omega⟩
    have hi : i < 8 := by omega
    have hg : Hid (e = 0 → GotR (lenG (textBits s) ((257 + i : Nat) : Int) n) (3 + (i : Int)) n e) := Lib.hid (by
      intro he
      unfold lenG
      rw [if_neg (by omega), Int.toNat_natCast, lenT0_small i hi]
      have h := add_got (s := s) (n := n) (k := 0) (b := 3 + i) (e := e) (by omega) hn he
      obtain ⟨z1, z2, z3⟩ := tk_zero (s := s) (e := e) hn
      rw [z1, z2, z3] at h
      simpa using h)
    have hl : (257 : Int) + (i : Int) < 265 := by omega
    have hw : IntKind.i64.wrap (257 + (i : Int) - 254) = 3 + (i : Int) := by rw [show 257 + (i : Int) - 254 = 3 + i by omega]; exact IntWalk.i64_in _ ⟨by omega, by omega⟩
    clear hc hc2 h1
    go_enter Try.func54, Try.ntmps54
    go_wp2
    go_ret
    exact ⟨_, rfl, 3 + (i : Int), n, e, by go_num, by omega, by omega, hn, fun _ => rfl, fun _ => by omega, hg.out, H⟩
  by_cases h2 : c < 285
  · obtain ⟨i, rfl⟩ : ∃ i, c = 265 + i := ⟨c - 265, by omega⟩
    have hi : i < 20 := by omega
    refine (inlength_mid i hi hs hn H).mono ?_
    rintro e1 w1 ⟨_, rfl, rfl, H1⟩
    have hm := lenT0_mid i hi
    have hb : 1 ≤ (lenT0 (265 + i)).1 ∧ (lenT0 (265 + i)).1 ≤ 230 ∧ (lenT0 (265 + i)).2 ≤ 5 := by
      have : ∀ i : Fin 20, 1 ≤ (lenT0 (265 + i.val)).1 ∧ (lenT0 (265 + i.val)).1 ≤ 230 ∧ (lenT0 (265 + i.val)).2 ≤ 5 := by decide
      exact this ⟨i, hi⟩
    have hV := (tk_got (s := s) (n := n) (k := (lenT0 (265 + i)).2) (by omega) hn).2
    have hV2 := tkV_lt (s := s) (n := n) (k := (lenT0 (265 + i)).2) (by omega)
    refine ⟨_, rfl, _, _, _, rfl, by omega, by omega, hV.1, fun h => tkE_ne h, fun _ => by omega, fun h => ?_, H1⟩
    unfold lenG
    rw [if_neg (by omega), Int.toNat_natCast]
    exact add_got (by omega) hn h
  by_cases h3 : c = 285
  · subst h3
    have hg : Hid (e = 0 → GotR (lenG (textBits s) ((285 : Nat) : Int) n) 258 n e) := Lib.hid (by
      intro he
      unfold lenG
      rw [if_neg (by omega), Int.toNat_natCast, lenT0_last]
      have h := add_got (s := s) (n := n) (k := 0) (b := 258) (e := e) (by omega) hn he
      obtain ⟨z1, z2, z3⟩ := tk_zero (s := s) (e := e) hn
      rw [z1, z2, z3] at h
      simpa using h)
    clear hc hc2 h1 h2
    go_enter Try.func54, Try.ntmps54
    go_wp2
    go_ret
    exact ⟨_, rfl, 258, n, e, rfl, by omega, by omega, hn, fun _ => rfl, fun _ => by omega, hg.out, H⟩
  · have HH := Lib.hid (infail_any (g := g) (rg := rg) 2 (by decide) H)
    have hb1 : ¬ (c : Int) < 265 := by omega
    have hb2 : ((c : Int) == 285) = false := by simp; omega
    have hb3 : 285 < (c : Int) := by omega
    clear hc hc2 h1 h2 h3
    go_enter Try.func54, Try.ntmps54
    go_wp2_with fail
    refine HH.out.mono ?_
    rintro e1 w1 ⟨_, rfl, H1⟩
    go_wp2
    go_ret
    refine ⟨_, rfl, 0, n, _, rfl, by omega, by omega, hn, fun h => if_neg h, fun h => ?_, fun h => ?_, H1⟩
    · split at h <;> omega
    unfold lenG
    rw [if_pos hb3, if_pos h]
    rfl

theorem distT0_small (i : Nat) (h : i < 4) : distT0 i = (1 + i, 0) := by
  have : ∀ i : Fin 4, distT0 i.val = (1 + i.val, 0) := by decide
  exact this ⟨i, h⟩
theorem distT0_mid (i : Nat) (h : i < 26) : distT0 (4 + i) = (1 + (2 + i % 2) * 2 ^ (i / 2 + 1), i / 2 + 1) := by
  have : ∀ i : Fin 26, distT0 (4 + i.val) = (1 + (2 + i.val % 2) * 2 ^ (i.val / 2 + 1), i.val / 2 + 1) := by decide
  exact this ⟨i, h⟩
set_option maxRecDepth 100000 in
set_option maxHeartbeats 1600000 in
theorem indist_mid {w0 w : World} {ps : List Piece} {g rg n : Nat} {s : ByteArray} {out : List Int} {most e : Int} (i : Nat) (hi : i < 26) (hs : s.size ≤ 1000000) (hn : n ≤ 8 * s.size) (H : Own w0 w (Inr g rg s n out most e :: ps)) :
    Calls Try.prog 55 #[.pointer (some ⟨g, 0, none⟩), .int .i64 ((4 + i : Nat) : Int)] w (Ret fun r w' => r = .int .i64 ((distT0 (4 + i)).1 + tkV s n ((distT0 (4 + i)).2 : Nat)) ∧ Own w0 w' (Inr g rg s (tkN s n ((distT0 (4 + i)).2 : Nat)) out most (tkE s n ((distT0 (4 + i)).2 : Nat) e) :: ps)) := by
  rw [distT0_mid i hi]
  obtain ⟨j, hj⟩ : ∃ j, Hid (i / 2 + 1 = j) := ⟨_, rfl⟩
  have hj1 : 1 ≤ j ∧ j ≤ 13 := by have := hj.out; omega
  simp only
  rw [hj.out]
  have hV := (tk_got (s := s) (n := n) (k := j) (by omega) hn).2.2
  have hV2 := tkV_lt (s := s) (n := n) (k := j) (by omega)
  have HT : ∀ wz, Own w0 wz (Inr g rg s n out most e :: ps) → _ := fun wz h => intake_tk j (by omega) h hs hn
  replace HT := Lib.hid HT
  obtain ⟨V, hv⟩ : ∃ V, Hid (tkV s n j = V) := ⟨_, rfl⟩
  obtain ⟨M, hm⟩ : ∃ M, Hid (tkN s n j = M) := ⟨_, rfl⟩
  obtain ⟨E, hE⟩ : ∃ E, Hid (tkE s n j e = E) := ⟨_, rfl⟩
  have hE2 : (if tkOk s n j then e else if e = 0 then 2 else e) = E := hE.out
  rw [hv.out, hm.out, hE2] at HT
  rw [hv.out] at hV hV2
  rw [hv.out, hm.out, hE.out]
  clear hE2
  obtain ⟨q, hq⟩ : ∃ q : Nat, Hid (i % 2 = q) := ⟨_, rfl⟩
  have hq4 : q ≤ 1 := by have := hq.out; omega
  rw [hq.out]
  obtain ⟨c, hc⟩ : ∃ c : Nat, Hid (4 + i = c) := ⟨_, rfl⟩
  rw [hc.out]
  have hc1 : 4 ≤ c ∧ c ≤ 29 := by have := hc.out; omega
  obtain ⟨hc1, hc2⟩ := hc1
  have hlt : ¬ (c : Int) < 4 := by omega
  have hgt : ¬ 29 < (c : Int) := by omega
  have d1 : ((c : Int) - 2) / 2 = (j : Int) := by have := hc.out; have := hj.out; omega
  have d2 : (c : Int).tmod 2 = (q : Int) := by have := hc.out; have := hq.out; rw [Int.tmod_eq_emod_of_nonneg (by omega)]; omega
  have d3 : (c : Int) % 2 = (q : Int) := by have := hc.out; have := hq.out; omega
  obtain ⟨b, hb⟩ : ∃ b : Nat, Hid ((2 + q) * 2 ^ j = b) := ⟨_, rfl⟩
  have hb1 : b ≤ 24576 := by
    rw [← hb.out]
    calc (2 + q) * 2 ^ j ≤ 3 * 2 ^ 13 := Nat.mul_le_mul (by omega) (Nat.pow_le_pow_right (by omega) hj1.2)
      _ = 24576 := rfl
  rw [hb.out]
  have d4 : (2 + (q : Int)) * 2 ^ j = (b : Int) := by rw [← hb.out, Int.natCast_mul, Int.natCast_pow]; rfl
  have d5 : IntKind.i64.wrap (b : Int) = (b : Int) := IntWalk.i64_in _ ⟨by omega, by omega⟩
  have d6 : IntKind.i64.wrap (2 + (q : Int)) = 2 + (q : Int) := IntWalk.i64_in _ ⟨by omega, by omega⟩
  have d7 : IntKind.i64.wrap (1 + (b : Int)) = 1 + (b : Int) := IntWalk.i64_in _ ⟨by omega, by omega⟩
  have d8 : IntKind.i64.wrap ((c : Int) - 2) = (c : Int) - 2 := IntWalk.i64_in _ ⟨by omega, by omega⟩
  have d10 : IntKind.i64.wrap (q : Int) = (q : Int) := IntWalk.i64_in _ ⟨by omega, by omega⟩
  have d11 : (j : Int) < 64 := by omega
  have d12 : ¬ (j : Int) < 0 := by omega
  have d13 : IntKind.i64.wrap (1 + (b : Int) + V) = 1 + (b : Int) + V := IntWalk.i64_in _ ⟨by omega, by omega⟩
  clear hj1
  go_enter Try.func55, Try.ntmps55
  go_upto_region 7 with (fail)
  refine Trk.wp_region_new (fun σ w1 => Own w0 w1 ((if (σ 8).isSome then Inr g rg s M out most E else Inr g rg s n out most e) :: ps)) 9 [] [8] (by intro k hk; simp at hk; subst hk; exact ⟨by omega, by simp, fun o ho => by simp at ho; subst ho; rfl⟩) (by kernel_rfl) (by kernel_rfl) H.drew ?_
  simp only [List.take_succ_cons, List.take_zero, List.drop_succ_cons, List.drop_zero]
  repeat
    first
    | (refine Trk.calm_value (v := ?_) (by decide) (by decide) rfl (fun σ w1 hS => ?_) ?_
       rotate_left
       · skip
         first | (go_simp; rfl) | rfl
       simp only [Act.put, List.setIfInBounds_toArray, List.set_cons_zero, List.set_cons_succ])
    | (refine Trk.calm_skip (by decide) rfl ?_
       simp only [Act.put, List.setIfInBounds_toArray, List.set_cons_zero, List.set_cons_succ])
  refine kcalm_call (v := .int .i64 V) (by decide) (by decide) rfl (fun w1 => (by go_simp; first | exact ⟨rfl, rfl⟩ | rfl)) (fun σ w1 hS hn => ?_) ?_
  · rw [hn] at hS
    refine (HT.out _ hS).mono ?_
    rintro e w2 ⟨_, rfl, rfl, h2⟩
    refine ⟨rfl, ?_⟩
    simpa [Sig.upd] using h2
  simp only [Act.put, List.setIfInBounds_toArray, List.set_cons_zero, List.set_cons_succ]
  refine Trk.calm_nil ?_
  intro σ wd _ hσ HD
  have h8 := hσ 8 (by decide)
  rw [if_pos h8] at HD
  clear H hσ h8
  simp only [putNew, List.foldl_nil]
  go_wp2
  go_ret
  exact ⟨_, rfl, by go_num, HD⟩
set_option maxRecDepth 100000 in
set_option maxHeartbeats 1600000 in
theorem indist_any {w0 w : World} {ps : List Piece} {g rg n : Nat} {s : ByteArray} {out : List Int} {most e : Int} (c : Nat) (hc2 : c ≤ 1000000) (hs : s.size ≤ 1000000) (hn : n ≤ 8 * s.size) (H : Own w0 w (Inr g rg s n out most e :: ps)) :
    Calls Try.prog 55 #[.pointer (some ⟨g, 0, none⟩), .int .i64 (c : Int)] w (Ret fun r w' => ∃ v n' e', r = .int .i64 v ∧ 0 ≤ v ∧ v ≤ 100000 ∧ n' ≤ 8 * s.size ∧ (e ≠ 0 → e' = e) ∧ (e' = 0 → 1 ≤ v) ∧ (e = 0 → GotR (distG (textBits s) c n) v n' e') ∧ Own w0 w' (Inr g rg s n' out most e' :: ps)) := by
  by_cases h1 : c < 4
  · have hg : Hid (e = 0 → GotR (distG (textBits s) (c : Int) n) (1 + (c : Int)) n e) := Lib.hid (by
      intro he
      unfold distG
      rw [if_neg (by omega), Int.toNat_natCast, distT0_small c h1]
      have h := add_got (s := s) (n := n) (k := 0) (b := 1 + c) (e := e) (by omega) hn he
      obtain ⟨z1, z2, z3⟩ := tk_zero (s := s) (e := e) hn
      rw [z1, z2, z3] at h
      simpa using h)
    have hl : (c : Int) < 4 := by omega
    have hw : IntKind.i64.wrap ((c : Int) + 1) = 1 + (c : Int) := by rw [show (c : Int) + 1 = 1 + c by omega]; exact IntWalk.i64_in _ ⟨by omega, by omega⟩
    clear hc2 h1
    go_enter Try.func55, Try.ntmps55
    go_wp2
    go_ret
    exact ⟨_, rfl, 1 + (c : Int), n, e, by go_num, by omega, by omega, hn, fun _ => rfl, fun _ => by omega, hg.out, H⟩
  by_cases h2 : c < 30
  · obtain ⟨i, rfl⟩ : ∃ i, c = 4 + i := ⟨c - 4, by omega⟩
    have hi : i < 26 := by omega
    refine (indist_mid i hi hs hn H).mono ?_
    rintro e1 w1 ⟨_, rfl, rfl, H1⟩
    have hb : 1 ≤ (distT0 (4 + i)).1 ∧ (distT0 (4 + i)).1 ≤ 24577 ∧ (distT0 (4 + i)).2 ≤ 13 := by
      have : ∀ i : Fin 26, 1 ≤ (distT0 (4 + i.val)).1 ∧ (distT0 (4 + i.val)).1 ≤ 24577 ∧ (distT0 (4 + i.val)).2 ≤ 13 := by decide
      exact this ⟨i, hi⟩
    have hV := (tk_got (s := s) (n := n) (k := (distT0 (4 + i)).2) (by omega) hn).2
    have hV2 := tkV_lt (s := s) (n := n) (k := (distT0 (4 + i)).2) (by omega)
    refine ⟨_, rfl, _, _, _, rfl, by omega, by omega, hV.1, fun h => tkE_ne h, fun _ => by omega, fun h => ?_, H1⟩
    unfold distG
    rw [if_neg (by omega), Int.toNat_natCast]
    exact add_got (by omega) hn h
  · have HH := Lib.hid (infail_any (g := g) (rg := rg) 2 (by decide) H)
    have hb1 : ¬ (c : Int) < 4 := by omega
    have hb3 : 29 < (c : Int) := by omega
    clear hc2 h1 h2
    go_enter Try.func55, Try.ntmps55
    go_wp2_with fail
    refine HH.out.mono ?_
    rintro e1 w1 ⟨_, rfl, H1⟩
    go_wp2
    go_ret
    refine ⟨_, rfl, 0, n, _, rfl, by omega, by omega, hn, fun h => if_neg h, fun h => ?_, fun h => ?_, H1⟩
    · split at h <;> omega
    · unfold distG
      rw [if_pos hb3, if_pos h]
      rfl
end Go.Proofs.Ytnebacnmbigaaaa
/- slices.Repeat: the walks of the product of two words, the first 1. -/
namespace Go.Proofs.Ytnebacnmbigaaaa
open Go.RowKit

theorem u64_mask (k : Nat) (h : k ≤ 1000000) : bits .and .u64 (k : Int) 4294967295 = (k : Int) := by
  have key : IntKind.u64.wrap ((BitVec.ofInt 64 (k : Int) &&& BitVec.ofInt 64 ((4294967295 : Nat) : Int)).toNat : Int) = (k : Int) := by
    rw [BitVec.ofInt_natCast, BitVec.ofInt_natCast, BitVec.toNat_and, BitVec.toNat_ofNat, BitVec.toNat_ofNat, Nat.mod_eq_of_lt (by omega), Nat.mod_eq_of_lt (by omega)]
    have := Nat.and_two_pow_sub_one_eq_mod k 32
    rw [show 2 ^ 32 - 1 = 4294967295 by decide] at this
    rw [this, Nat.mod_eq_of_lt (by omega)]
    exact IntWalk.u64_in _ ⟨by omega, by omega⟩
  exact key
set_option maxRecDepth 100000 in
theorem mul64_any (k : Nat) (h : k ≤ 1000000) (w : World) :
    Calls Try.prog 89 #[.int .u64 1, .int .u64 k] w (Ret fun r w' => r = .tuple #[.int .u64 0, .int .u64 k] ∧ Own w w' []) := by
  have H := Own.start w
  have h1 := u64_mask k h
  have h2 : bits .and .u64 1 4294967295 = 1 := by decide
  have h3 : (k : Int) / 4294967296 = 0 := by omega
  go_enter Try.func89, Try.ntmps89
  go_wp2_with fail
  go_ret2
  exact ⟨_, rfl, rfl, H⟩
theorem mul_any (k : Nat) (h : k ≤ 1000000) (w : World) :
    Calls Try.prog 66 #[.int .u64 1, .int .u64 k] w (Ret fun r w' => r = .tuple #[.int .u64 0, .int .u64 k] ∧ Own w w' []) := by
  have H := Own.start w
  have h2 := mul64_any k h
  go_enter Try.func66, Try.ntmps66
  go_wp2_with fail
  refine (h2 _).mono ?_
  rintro e w2 ⟨_, rfl, rfl, H2⟩
  have H := H.join H2
  go_wp2_with fail
  go_ret2
  exact ⟨_, rfl, rfl, H⟩
end Go.Proofs.Ytnebacnmbigaaaa
/- copy into a row of the call's own; slices.Repeat of one int. -/
namespace Go.Proofs.Ytnebacnmbigaaaa
open Go.RowKit

section
variable {w0 w w' : World} {ps : List Piece} {e : TypeId} {n : Nat} {xs : List Value}
variable {P : Program} {ops : Array Oper} {rest : List Oper} {o : Oper} {a : Act} {Q : Exit → Act → World → Prop}
theorem wpList_copy_slc (hgd : o.guard = none) (d s : Operand) (dT sT : TypeId) (ho : o.op = .call { callee := .builtin .copy, args := #[d, s], argTypes := #[dT, sT] })
    (hu : P.underlying dT = some (.slice e)) (hsz : (P.info? e).map (·.size) = some 1) {g c : Nat} (H : Own w0 w (slc e 1 (.slice (some ⟨g, 0, none⟩) n c) n xs :: ps))
    (dp sp : Option Addr) (dLen dCap sLen sCap : Nat) (hd : a.eval d = .slice dp dLen dCap) (hs : a.eval s = .slice sp sLen sCap)
    (off m : Nat) (cs : List Value) (hm : cs.length = m) (hn : m = Nat.min sLen dLen) (hpos : 0 < m → dp = some ⟨g, off, none⟩ ∧ ∃ ad, sp = some ad ∧ ∀ j v, cs[j]? = some v → w.cell? (ad.add j) = some v)
    (hfit : off + m ≤ n) (h1 : ∀ v ∈ cs, v.oneCell' = true)
    (h : ∀ w', Own w0 w' (slc e 1 (.slice (some ⟨g, 0, none⟩) n c) n (splice xs off cs) :: ps) → wpList P ops Q rest (a.put o.dst (.int .i64 m)) w') : wpList P ops Q (o :: rest) a w := by
  subst hm
  by_cases h0 : cs.length = 0
  · obtain rfl : cs = [] := List.eq_nil_of_length_eq_zero h0
    refine wpList_copy_nothing hgd d s dT sT ho e hu hsz dp sp dLen dCap sLen sCap hd hs (by simpa using hn.symm) ?_
    exact h w (by simpa [splice] using H)
  · obtain ⟨rfl, ad, rfl, hsrc⟩ := hpos (by omega)
    rcases H.slc_cases with ⟨hv, _⟩ | ⟨g', cap, cur, he, hl, c1, c2, c3, c4, h5⟩
    · cases hv
    · cases he
      refine wpList_copy_own hgd d s dT sT ho e hu hsz g off dLen dCap ad sLen sCap hd hs cur e h5.block.1 cs hn hsrc (by omega) h1 ?_
      refine h _ ((h5.setRow (cur' := (cur.toList.take off ++ (cs ++ cur.toList.drop (off + cs.length))).toArray)).slc_mk ?_ c1 c2 ?_ ?_)
      · rw [length_splice _ _ _ (by omega)]; exact hl
      · simp only [List.size_toArray, List.length_append, List.length_take, List.length_drop, Array.length_toList]; omega
      · have hcl : cur.toList.length = cur.size := by simp
        unfold splice
        rw [← c4, List.toList_toArray, Nat.mul_one, List.take_append, List.take_append, List.take_take, List.drop_take, List.length_take, Nat.min_eq_left (show off ≤ cur.toList.length by omega), List.take_take,
          Nat.min_eq_right (show off ≤ n by omega), List.take_of_length_le (l := cs) (by omega), Nat.min_eq_left (show off ≤ n by omega), show n - off - cs.length = n - (off + cs.length) by omega]
end

theorem rep_splice (a : Int) {k n m : Nat} (h : n + m ≤ k) : splice (nums (List.replicate n a ++ List.replicate (k - n) 0)) n (nums (List.replicate m a)) = nums (List.replicate (n + m) a ++ List.replicate (k - (n + m)) 0) := by
  unfold splice nums
  rw [List.map_append, List.map_append, List.take_left' (by simp), List.drop_append, List.drop_eq_nil_of_le (by simp), List.nil_append]
  simp only [List.map_replicate, List.length_replicate, List.drop_replicate]
  rw [← List.append_assoc, List.replicate_append_replicate, show k - n - (n + m - n) = k - (n + m) by omega]

set_option maxRecDepth 100000 in
set_option maxHeartbeats 1600000 in
theorem repeat_any {w : World} {v : Value} {a : Int} (k : Nat) (hr : Rd w 1 v 1 (nums [a])) (hk : k ≤ 1000000) :
    Calls Try.prog 40 #[v, .int .i64 k] w (Ret fun r w' => Own w w' [slc 3 1 r k (nums (List.replicate k a))]) := by
  have H := Own.start w
  obtain ⟨b, o, c, rfl, hc1, hc2⟩ := hr.some (by simp [nums])
  have c0 := hr.cell (u := .int .i64 a) (j := 0) rfl
  have HC0 := Lib.hid c0
  clear hr c0
  have hmul := mul_any k hk
  have HM := Lib.hid hmul
  clear hmul
  have hkI : (k : Int) ≤ 9223372036854775807 := by omega
  have hkw : IntKind.u64.wrap (k : Int) = (k : Int) := IntWalk.u64_in _ ⟨by omega, by omega⟩
  have hkw2 : IntKind.i64.wrap (k : Int) = (k : Int) := IntWalk.i64_in _ ⟨by omega, by omega⟩
  have hmk : ∀ w : World, (Instr.makeSlice 31 (.int .i64 k) (.int .i64 k)).run Try.prog w = .ok (.slice (some ⟨w.heap.size, 0, none⟩) k k) (w.alloc (.cells (madeCells #[.int .i64 0] k) 3)) := run_make_row' _ _ _ 8 Try.underlying31 intInfo rfl .i64 .i64 k (by omega) (by omega)
  go_enter Try.func40, Try.ntmps40
  go_wp2_with fail
  refine (HM.out _).mono ?_
  rintro e w2 ⟨_, rfl, rfl, H2⟩
  have H := H.join H2
  clear H2
  go_upto_region 7 with (fail)
  have h1 := H.alloc (.cells (madeCells #[.int .i64 0] k) 3)
  have H : Own w (w2.alloc (.cells (madeCells #[.int .i64 0] k) 3)) [slc 3 1 (.slice (some ⟨w2.heap.size, 0, none⟩) k k) k (nums (List.replicate 0 a ++ List.replicate (k - 0) 0))] :=
    h1.slc_mk (by simp [nums]) (Nat.le_refl _) (by simp [maxLen]; omega) (by simp [size_madeCells]) (by rw [toList_madeCells_one]; simp [nums])
  have c0 := (show (w2.alloc (.cells (madeCells #[.int .i64 0] k) 3)).cell? ⟨b, o + 0, none⟩ = some (.int .i64 a) by rw [H.oldCell (World.block_lt_of_cell? _ _ HC0.out)]; exact HC0.out)
  clear h1
  generalize w2.alloc (.cells (madeCells #[.int .i64 0] k) 3) = w3 at *
  obtain ⟨g, hg⟩ : ∃ g, w2.heap.size = g := ⟨_, rfl⟩
  rw [hg] at H ⊢
  clear hg hmk HM
  have hsrc : ∀ j v, (nums (List.replicate (min k 1) a))[j]? = some v → w3.cell? ((⟨b, o, none⟩ : Addr).add j) = some v := fun j v hj => by
    have hlt := (List.getElem?_eq_some_iff.1 hj).1
    rw [nums_length, List.length_replicate] at hlt
    have : j = 0 := by omega
    subst this
    rw [Addr.add_lit, c0]
    have hk1 : min k 1 = 1 := by omega
    rw [hk1] at hj
    exact hj
  obtain ⟨m1, hm1⟩ : ∃ m1, Hid (min k 1 = m1) := ⟨_, rfl⟩
  have hmin : m1 = Nat.min 1 k := by rw [← hm1.out]; show min k 1 = min 1 k; omega
  rw [hm1.out] at hsrc
  have HS := Lib.hid hsrc
  have HMIN := Lib.hid hmin
  have hm1k : m1 ≤ k := by rw [← hm1.out]; omega
  have hm10 : 1 ≤ k → 1 ≤ m1 := fun h => by rw [← hm1.out]; omega
  have HP := Lib.hid hm10
  have HONE : Hid (∀ m : Nat, ∀ v ∈ nums (List.replicate m a), v.oneCell' = true) := Lib.hid (fun m v hv => by
    unfold nums at hv; obtain ⟨x, _, rfl⟩ := List.mem_map.1 hv; rfl)
  clear c0 hsrc hmin hm10
  go_wp2_with (refine wpList_copy_slc rfl _ _ _ _ rfl Try.underlying31 (by kernel_rfl) H _ _ _ _ _ _ rfl rfl 0 m1 (nums (List.replicate m1 a)) (by simp [nums]) HMIN.out (fun h => ⟨rfl, _, rfl, HS.out⟩) (by omega) (HONE.out m1) ?_; clear H; intro w4 H; rw [rep_splice a (by omega), Nat.zero_add] at H)
  go_loopw [8] (fun s8 wx => ∃ n : Nat, s8 = .int .i64 n ∧ n ≤ k ∧ (1 ≤ k → 1 ≤ n) ∧ Own w wx [slc 3 1 (.slice (some ⟨g, 0, none⟩) k k) k (nums (List.replicate n a ++ List.replicate (k - n) 0))]) (fun s8 _ => k - (intOf s8).toNat)
  case atStart => exact ⟨m1, by go_num, hm1k, HP.out, H⟩
  case round =>
    clear H
    obtain ⟨n, rfl, hn, hn1, H⟩ := hrel
    by_cases hlt : n < k
    · have hI : (n : Int) < (k : Int) := by omega
      have hn1 := hn1 (by omega)
      obtain ⟨m, hm⟩ : ∃ m, Hid (min n (k - n) = m) := ⟨_, rfl⟩
      have hm1 : 1 ≤ m := by rw [← hm.out]; omega
      have hmk : n + m ≤ k := by rw [← hm.out]; omega
      have hmn : m ≤ n := by rw [← hm.out]; omega
      have hmin : m = Nat.min n (k - n) := hm.out.symm
      have HMIN2 := Lib.hid hmin
      have hsub : ((k : Int) - (n : Int)) = ((k - n : Nat) : Int) := by omega
      clear hmin
      have hcut : (n : Int) ≤ (k : Int) := by omega
      have hn0 : n ≠ 0 := by omega
      have hkn : k ≠ n := by omega
      go_upto_region 9 with (fail)
      refine wp_region_pres (fun σ w1 => Own w w1 [slc 3 1 (.slice (some ⟨g, 0, none⟩) k k) k (nums (List.replicate n a ++ List.replicate (k - n) 0))]) 7 [] [0] (by kernel_rfl) (by kernel_rfl) (by kernel_rfl) (by kernel_rfl) (fun _ _ d _ _ h => by cases d <;> exact h) ⟨_, _, rfl, fun w => (by first | rfl | (go_simp; rfl)), rfl⟩ H.drew ?_
      simp only [List.take_succ_cons, List.take_zero, List.drop_succ_cons, List.drop_zero]
      repeat
        first
        | (refine calm_value (v := ?_) (by decide) rfl (fun σ w1 hS => ?_) ?_
           rotate_left
           · skip
             first | (go_simp; rfl) | rfl
           simp only [Act.put, List.setIfInBounds_toArray, List.set_cons_zero, List.set_cons_succ])
        | (refine calm_skip (by decide) rfl ?_
           simp only [Act.put, List.setIfInBounds_toArray, List.set_cons_zero, List.set_cons_succ])
      refine calm_nil ?_
      intro σ wd hσ HD
      clear H
      simp only [putNew, List.foldl_nil]
      have hsrc : ∀ j v, (nums (List.replicate m a))[j]? = some v → wd.cell? ((⟨g, 0, none⟩ : Addr).add j) = some v := fun j v hj => by
        have hlt := (List.getElem?_eq_some_iff.1 hj).1
        rw [nums_length, List.length_replicate] at hlt
        rw [Addr.add_lit]
        refine HD.rd.cell ?_
        unfold nums at hj ⊢
        rw [List.map_append, List.getElem?_append_left (by simp; omega), ← hj]
        simp only [List.map_replicate, List.getElem?_replicate]
        rw [if_pos (by omega), if_pos hlt]
      have HS2 := Lib.hid hsrc
      have hnm : IntKind.i64.wrap ((n : Int) + (m : Int)) = ((n + m : Nat) : Int) := by rw [Int.natCast_add]; exact IntWalk.i64_in _ ⟨by omega, by omega⟩
      clear hsrc
      go_wp2_with (refine wpList_copy_slc rfl _ _ _ _ rfl Try.underlying31 (by kernel_rfl) HD _ _ _ _ _ _ rfl rfl n m (nums (List.replicate m a)) (by simp [nums]) HMIN2.out (fun h => ⟨rfl, _, rfl, HS2.out⟩) (by omega) (HONE.out m) ?_; clear HD; intro w6 H; rw [rep_splice a (by omega)] at H)
      go_roundw
      case rel => exact ⟨n + m, by go_num, by omega, fun _ => by omega, H⟩
      case measure => simp [intOf]; omega
    · have hI : ¬ (n : Int) < (k : Int) := by omega
      obtain rfl : n = k := by omega
      rw [Nat.sub_self, List.replicate_zero, List.append_nil] at H
      go_wp2_with fail
      go_ret
      exact ⟨_, rfl, H⟩
end Go.Proofs.Ytnebacnmbigaaaa
/- slices.Grow of nil, slices.Concat: the walks. -/
namespace Go.Proofs.Ytnebacnmbigaaaa
open Go.RowKit

set_option maxRecDepth 100000 in
theorem grow_any (n : Nat) (hn : n ≤ 1000000) (w : World) :
    Calls Try.prog 65 #[.slice none 0 0, .int .i64 n] w (Ret fun r w' => Own w w' [slc 3 1 r 0 []]) := by
  have H := Own.start w
  by_cases h0 : n = 0
  · subst h0
    have H := H.nil 3 1
    go_enter Try.func65, Try.ntmps65
    go_wp2_with fail
    go_ret
    exact ⟨_, rfl, H⟩
  · have hI : (n : Int) > 0 := by omega
    obtain ⟨i, hi, hz, hsize, hby⟩ := info_parts intInfo
    have hap : ∀ (w : World) (ty : TypeId) (t2 : TypeId), Try.prog.underlying t2 = some (.int .i64) → (Builtin.append_ #[31, t2] ty #[.slice none 0 0, .int .i64 n]).run Try.prog w = .ok (.slice (some ⟨w.heap.size, 0, none⟩) n (grownCap w n 0 3)) (w.drew.alloc (.cells (Builtin.zeroCells (Value.int .i64 0).cells n ++ Builtin.zeroCells (Value.int .i64 0).cells (grownCap w n 0 3 - n)) 3)) := fun w ty t2 ht2 =>
      Lib.run_append_nil_zeros w 31 t2 ty 3 i (.int .i64 0) .i64 .i64 Try.underlying31 ht2 hi hz n (by omega) (by omega) (by omega) (by rw [hby]; omega)
    have HA := Lib.hid hap
    have hge := grownCap_ge w n 0 3
    have hle := grownCap_le_maxLen w n 0 3 (by simp [maxLen]; omega)
    have H2 : Own w (w.drew.alloc (.cells (Builtin.zeroCells (Value.int .i64 0).cells n ++ Builtin.zeroCells (Value.int .i64 0).cells (grownCap w n 0 3 - n)) 3)) [slc 3 1 (.slice (some ⟨w.heap.size, 0, none⟩) 0 (grownCap w n 0 3)) 0 []] := by
      have h1 := H.drew.alloc (.cells (Builtin.zeroCells (Value.int .i64 0).cells n ++ Builtin.zeroCells (Value.int .i64 0).cells (grownCap w n 0 3 - n)) 3)
      exact h1.slc_mk (by simp) (Nat.zero_le _) hle (by simp [size_zeroCells, Value.cells]; omega) (by simp)
    clear hap
    go_enter Try.func65, Try.ntmps65
    go_wp2_with (at_builtin; refine Lib.wpList_append_run _ rfl _ _ _ _ rfl _ _ rfl rfl _ _ (HA.out _ _ _ (by kernel_rfl)) ?_; clear H; generalize w.drew.alloc _ = w2 at *; generalize grownCap w n 0 3 = gc at *)
    go_ret
    exact ⟨_, rfl, H2⟩

/-- How many ints the first k lists have. -/
def flatN (Ls : List (List Int)) (k : Nat) : List Int := (Ls.take k).flatten
theorem flatN_succ {Ls : List (List Int)} {k : Nat} {L : List Int} (h : Ls[k]? = some L) : flatN Ls (k + 1) = flatN Ls k ++ L := by
  unfold flatN
  rw [List.take_add_one, h, List.flatten_append]
  simp
theorem flatN_le (Ls : List (List Int)) (k : Nat) : (flatN Ls k).length ≤ Ls.flatten.length := by
  unfold flatN
  conv => rhs; rw [← List.take_append_drop k Ls, List.flatten_append, List.length_append]
  omega
set_option maxRecDepth 100000 in
set_option maxHeartbeats 1600000 in
theorem concat_any {w : World} {v : Value} {m : Nat} (Ls : List (List Int)) (vs : List Value) (hr : Rd w 1 v m vs) (hl : vs.length = m) (hLl : Ls.length = m) (hm : m ≤ 1000)
    (hall : ∀ (k : Nat) (u : Value) (L : List Int), vs[k]? = some u → Ls[k]? = some L → Rd w 1 u L.length (nums L)) (hN : Ls.flatten.length ≤ 100000) :
    Calls Try.prog 39 #[v] w (Ret fun r w' => Own w w' [slc 3 1 r Ls.flatten.length (nums Ls.flatten)]) := by
  have H := Own.start w
  obtain ⟨a, c, rfl, hc1, hc2⟩ := hr.shape
  have HR := Lib.hid hr
  have HALL := Lib.hid hall
  have HL := Lib.hid hl
  have HLL := Lib.hid hLl
  clear hr hall hl hLl
  have hg : ∀ (n : Nat), n ≤ 1000000 → ∀ w, Calls Try.prog 65 #[.slice none 0 0, .int .i64 n] w (Ret fun r w' => Own w w' [slc 3 1 r 0 []]) := fun n hn w => grow_any n hn w
  have HG := Lib.hid hg
  clear hg
  obtain ⟨N, hNN⟩ : ∃ N, Hid (Ls.flatten.length = N) := ⟨_, rfl⟩
  rw [hNN.out] at hN ⊢
  obtain ⟨FL, hFL⟩ : ∃ FL, Hid (Ls.flatten = FL) := ⟨_, rfl⟩
  rw [hFL.out]
  go_enter Try.func39, Try.ntmps39
  go_wp2_with fail
  go_loopw [3, 11] (fun s3 s11 wx => ∃ k q : Nat, s11 = .int .i64 k ∧ k ≤ m ∧ s3 = .int .i64 q ∧ Hid ((flatN Ls k).length = q) ∧ q ≤ 100000 ∧ Own w wx []) (fun _ s11 _ => m - (intOf s11).toNat)
  case atStart => exact ⟨0, 0, by go_num, by omega, by go_num, Lib.hid (by simp [flatN]), by omega, H⟩
  case round =>
    clear H
    obtain ⟨k, q, rfl, hk, rfl, hq, hqN, H⟩ := hrel
    by_cases hlt : k < m
    · have hI : (k : Int) < (m : Int) := by omega
      obtain ⟨u, hu⟩ := get_of_lt (l := vs) (k := k) (by have := HL.out; omega)
      obtain ⟨L, hL⟩ := get_of_lt (l := Ls) (k := k) (by have := HLL.out; omega)
      obtain ⟨b, o, _, he, -⟩ := HR.out.some (by have := HL.out; omega)
      cases he
      have c0 := (HR.out.old H).cell hu
      have hu2 := HALL.out k u L hu hL
      obtain ⟨ua, uc, rfl, huc1, huc2⟩ := hu2.shape
      have hs := flatN_succ hL
      have hle := flatN_le Ls (k + 1)
      rw [hNN.out] at hle
      have hq2 : Hid ((flatN Ls (k + 1)).length = q + L.length) := Lib.hid (by rw [hs, List.length_append, hq.out])
      have hb : q + L.length ≤ 100000 := by have := hq2.out; omega
      obtain ⟨x, hx⟩ : ∃ x, Hid (L.length = x) := ⟨_, rfl⟩
      rw [hx.out] at hb hq2 huc1 c0
      have hw : IntKind.i64.wrap ((q : Int) + (x : Int)) = (q : Int) + (x : Int) := IntWalk.i64_in _ ⟨by omega, by omega⟩
      have hnn : ¬ ((q : Int) + (x : Int) < 0) := by omega
      clear hu hL hu2 hs hle
      go_wp2_with fail
      go_roundw
      case rel => exact ⟨k + 1, q + x, by go_num, by omega, by go_num, hq2, hb, H⟩
      case measure => simp [intOf]; omega
    · have hI : ¬ (k : Int) < (m : Int) := by omega
      go_wp2_with fail
      refine (HG.out q (by omega) _).mono ?_
      rintro e w2 ⟨v6, rfl, H2⟩
      have H := H.join H2
      clear H2
      obtain ⟨a6, c6, rfl, -⟩ := H.rd.shape
      go_wp2_with fail
      go_loopw [6, 27] (fun s6 s27 wx => ∃ k q : Nat, s27 = .int .i64 k ∧ k ≤ m ∧ Hid ((flatN Ls k).length = q) ∧ q ≤ 100000 ∧ Own w wx [slc 3 1 s6 q (nums (flatN Ls k))]) (fun _ s27 _ => m - (intOf s27).toNat)
      case atStart => exact ⟨0, 0, by go_num, by omega, Lib.hid (by simp [flatN]), by omega, H⟩
      case round =>
        clear H hq hqN
        obtain ⟨k, q, rfl, hk, hq, hqN, H⟩ := hrel
        rename_i v6 _
        obtain ⟨a6, c6, rfl, -⟩ := H.rd.shape
        by_cases hlt : k < m
        · have hI : (k : Int) < (m : Int) := by omega
          obtain ⟨u, hu⟩ := get_of_lt (l := vs) (k := k) (by have := HL.out; omega)
          obtain ⟨L, hL⟩ := get_of_lt (l := Ls) (k := k) (by have := HLL.out; omega)
          obtain ⟨b, o, _, he, -⟩ := HR.out.some (by have := HL.out; omega)
          cases he
          have c0 := (HR.out.old H).cell hu
          have hu2 := HALL.out k u L hu hL
          obtain ⟨ua, uc, rfl, huc1, huc2⟩ := hu2.shape
          have hs := flatN_succ hL
          have hle := flatN_le Ls (k + 1)
          rw [hNN.out] at hle
          obtain ⟨x, hx⟩ : ∃ x, Hid (L.length = x) := ⟨_, rfl⟩
          have hq2 : Hid ((flatN Ls (k + 1)).length = q + x) := Lib.hid (by rw [hs, List.length_append, hq.out, hx.out])
          have hb : q + x ≤ 100000 := by have := hq2.out; omega
          have hold := hu2.old H
          rw [hx.out] at huc1 c0 hold
          have HS := Lib.hid (show nums (flatN Ls k) ++ nums L = nums (flatN Ls (k + 1)) by rw [hs]; simp [nums])
          have HO := Lib.hid hold
          have H1 : Hid (∀ v ∈ nums L, v.oneCell' = true) := Lib.hid (fun v hv => by unfold nums at hv; obtain ⟨x, _, rfl⟩ := List.mem_map.1 hv; rfl)
          clear hu hL hu2 hs hle hold
          go_wp2_with (at_builtin; refine wpList_append_sep rfl _ _ rfl Try.underlying31 intInfo rfl (by decide) rfl H HO.out H1.out (by omega) (by omega) ?_; clear H c0; intro v' w' H; rw [HS.out] at H; obtain ⟨a8, c8, rfl, -⟩ := H.rd.shape)
          go_roundw
          case rel => exact ⟨k + 1, q + x, by go_num, by omega, hq2, hb, H⟩
          case measure => simp [intOf]; omega
        · have hI : ¬ (k : Int) < (m : Int) := by omega
          have hfl : flatN Ls k = Ls.flatten := by unfold flatN; rw [List.take_of_length_le (by have := HLL.out; omega)]
          have hqq : q = N := by rw [← hq.out, hfl, hNN.out]
          subst hqq
          rw [hfl, hFL.out] at H
          clear hfl hq
          go_wp2_with fail
          go_ret
          exact ⟨_, rfl, H⟩
end Go.Proofs.Ytnebacnmbigaaaa
/- flate: bounds of symbols. No program in sight. -/
namespace Go.Proofs.Ytnebacnmbigaaaa
open Go.RowKit

theorem lenSym_bd_all : ∀ x : Fin 256, 257 ≤ (lenSym (x.1 + 3)).1 ∧ (lenSym (x.1 + 3)).1 ≤ 285 ∧ (lenSym (x.1 + 3)).2.1 ≤ 5 ∧ (lenSym (x.1 + 3)).2.2 < 2 ^ (lenSym (x.1 + 3)).2.1 := by decide +kernel
theorem lenSym_bd {n : Nat} (h : 3 ≤ n ∧ n ≤ 258) : 257 ≤ (lenSym n).1 ∧ (lenSym n).1 ≤ 285 ∧ (lenSym n).2.1 ≤ 5 ∧ (lenSym n).2.2 < 2 ^ (lenSym n).2.1 := by
  have := lenSym_bd_all ⟨n - 3, by omega⟩
  simpa [show n - 3 + 3 = n by omega] using this
def distBd (x : Nat) : Bool := decide ((distSym (x + 1)).1 ≤ 29 ∧ (distSym (x + 1)).2.1 ≤ 13 ∧ (distSym (x + 1)).2.2 < 2 ^ (distSym (x + 1)).2.1)
theorem distBd_chk : ∀ k : Fin 16, chk distBd 11 (2048 * k.1) = true := by decide +kernel
theorem distSym_bd {n : Nat} (h : 1 ≤ n ∧ n ≤ 32768) : (distSym n).1 ≤ 29 ∧ (distSym n).2.1 ≤ 13 ∧ (distSym n).2.2 < 2 ^ (distSym n).2.1 := by
  have h1 := distBd_chk ⟨(n - 1) / 2048, by omega⟩
  have := chk_all 11 _ h1 ((n - 1) % 2048) (by omega)
  rw [show 2048 * ((n - 1) / 2048) + (n - 1) % 2048 = n - 1 by omega] at this
  unfold distBd at this
  rw [show n - 1 + 1 = n by omega] at this
  exact of_decide_eq_true this
end Go.Proofs.Ytnebacnmbigaaaa
/- flate: a block's bits, plainly. No program in sight. -/
namespace Go.Proofs.Ytnebacnmbigaaaa

/-- A token's bits, by codes of lengths. -/
def tbits (L D : List Int) (t : Tok) : List Bool :=
  if t.len = 0 then cbits L t.lit.toNat
  else cbits L (lenSym t.len.toNat).1 ++ (bitsOf (lenSym t.len.toNat).2.2 (lenSym t.len.toNat).2.1 ++ (cbits D (distSym t.dist.toNat).1 ++ bitsOf (distSym t.dist.toNat).2.2 (distSym t.dist.toNat).2.1))
def toksB (L D : List Int) (l : List Tok) : List Bool := l.flatMap (tbits L D)
def bodyB (L D : List Int) (l : List Tok) : List Bool := toksB L D l ++ cbits L 256
/-- The fixed codes' lengths. -/
def fixL : List Int := List.replicate 144 8 ++ List.replicate 112 9 ++ List.replicate 24 7 ++ List.replicate 8 8
def fixD : List Int := List.replicate 32 5
def headB (last : Bool) (kind : Int) : List Bool := last :: bitsOf kind 2

/-- How often each symbol comes. -/
def litS (t : Tok) : Int := if t.len = 0 then t.lit else ((lenSym t.len.toNat).1 : Int)
def distS (t : Tok) : Int := ((distSym t.dist.toNat).1 : Int)
def litFq (l : List Tok) : List Int := bumpF ((zerosF 286).set 256 1) (l.map litS)
def distFq (l : List Tok) : List Int := bumpF (zerosF 30) ((l.filter fun t => decide (t.len ≠ 0)).map distS)
/-- Without the zeros behind the last one, at least so many. -/
def trimK (l : List Int) (least : Nat) : Nat → Nat
  | 0 => 0
  | k + 1 => if least < k + 1 ∧ l.getD k 0 = 0 then trimK l least k else k + 1
def trimF (l : List Int) (least : Nat) : List Int := l.take (trimK l least l.length)
/-- Lengths, as runs: symbol, how many bits more, these. -/
structure Run where
  sym : Int
  n : Int
  v : Int
def sameK (x : Int) : List Int → Nat
  | [] => 0
  | y :: t => if y = x then sameK x t + 1 else 0
def runsN : Nat → List Int → List Run
  | 0, _ => []
  | _ + 1, [] => []
  | f + 1, x :: t =>
    if x = 0 ∧ 10 < sameK x t + 1 then ⟨18, 7, (min (sameK x t + 1) 138 : Nat) - 11⟩ :: runsN f ((x :: t).drop (min (sameK x t + 1) 138))
    else if x = 0 ∧ 2 < sameK x t + 1 then ⟨17, 3, (sameK x t + 1 : Nat) - 3⟩ :: runsN f ((x :: t).drop (sameK x t + 1))
    else if 3 < sameK x t + 1 then ⟨x, 0, 0⟩ :: ⟨16, 2, (min (sameK x t + 1) 7 : Nat) - 4⟩ :: runsN f ((x :: t).drop (min (sameK x t + 1) 7))
    else ⟨x, 0, 0⟩ :: runsN f t
def runsF (l : List Int) : List Run := runsN l.length l
/-- The order in which the lengths of lengths' codes stand. -/
def ordF : List Nat := [16, 17, 18, 0, 8, 7, 9, 6, 10, 5, 11, 4, 12, 3, 13, 2, 14, 1, 15]
def richL (l : List Tok) : List Int := trimF (resF (litFq l) 15) 257
def richD (l : List Tok) : List Int := trimF (resF (distFq l) 15) 1
def richR (l : List Tok) : List Run := runsF (richL l ++ richD l)
def runFq (rs : List Run) : List Int := bumpF (zerosF 19) (rs.map Run.sym)
def runL (rs : List Run) : List Int := resF (runFq rs) 7
def sortedF (ls : List Int) : List Int := trimF (ordF.map fun s => ls.getD s 0) 4
def runB (ls : List Int) (r : Run) : List Bool := cbits ls r.sym.toNat ++ bitsOf r.v r.n.toNat
def runsB (ls : List Int) (rs : List Run) : List Bool := rs.flatMap (runB ls)
def lensB (l : List Int) : List Bool := l.flatMap fun n => bitsOf n 3
def sizesB (a b c : Nat) : List Bool := bitsOf ((a : Int) - 257) 5 ++ (bitsOf ((b : Int) - 1) 5 ++ bitsOf ((c : Int) - 4) 4)
/-- What stands behind a block's beginning. -/
def richB (l : List Tok) : List Bool :=
  sizesB (richL l).length (richD l).length (sortedF (runL (richR l))).length ++ (lensB (sortedF (runL (richR l))) ++ (runsB (runL (richR l)) (richR l) ++ bodyB (richL l) (richD l) l))
def blockB (l : List Tok) (kind : Int) (last : Bool) : List Bool := if kind = 1 then headB last 1 ++ bodyB fixL fixD l else headB last 2 ++ richB l
/-- A text as it is. -/
def storeB : Nat → ByteArray → List Bool → List Bool
  | 0, _, bs => bs
  | f + 1, t, bs => if t.size ≤ 65535
      then aligned (bs ++ headB true 0) ++ (bitsOf (t.size : Int) 16 ++ (bitsOf (65535 - (t.size : Int)) 16 ++ textBits t))
      else storeB f (t.extract 65535 t.size) (aligned (bs ++ headB false 0) ++ (bitsOf 65535 16 ++ (bitsOf 0 16 ++ textBits (t.extract 0 65535))))
def storeF (s : ByteArray) : List Bool := storeB (s.size + 1) s []

/-- What a token of a text may be. -/
def TokOk (t : Tok) : Prop := (t.len = 0 ∧ 0 ≤ t.lit ∧ t.lit < 256) ∨ (3 ≤ t.len ∧ t.len ≤ 258 ∧ 1 ≤ t.dist ∧ t.dist ≤ 32768)
theorem may_ok {t : Tok} {n : Nat} (h : may t n = true) : TokOk t := by
  unfold may at h
  unfold TokOk
  split at h
  · next h0 => have := of_decide_eq_true h; omega
  · have := of_decide_eq_true h; omega

/-! ### symbols -/

/-! ### how long -/
theorem flat_le {α : Type} {f : α → List Bool} {b : Nat} : ∀ (l : List α), (∀ x ∈ l, (f x).length ≤ b) → (l.flatMap f).length ≤ b * l.length
  | [], _ => by simp
  | x :: t, h => by
    have h1 := flat_le t fun y hy => h y (by simp [hy])
    have h2 := h x (by simp)
    rw [List.flatMap_cons, List.length_append, List.length_cons, Nat.mul_succ]
    omega
theorem getD_le {l : List Int} (hl : ∀ x ∈ l, 0 ≤ x ∧ x ≤ 15) (s : Nat) : 0 ≤ l.getD s 0 ∧ l.getD s 0 ≤ 15 := by
  by_cases h : s < l.length
  · exact hl _ (mem_getD2 h)
  · rw [List.getD_eq_getElem?_getD, List.getElem?_eq_none (by omega)]; simp
theorem cbits_le {l : List Int} (hl : ∀ x ∈ l, 0 ≤ x ∧ x ≤ 15) (s : Nat) : (cbits l s).length ≤ 15 := by
  rw [cbits_length]; have := getD_le hl s; omega
theorem tbits_le {L D : List Int} (hL : ∀ x ∈ L, 0 ≤ x ∧ x ≤ 15) (hD : ∀ x ∈ D, 0 ≤ x ∧ x ≤ 15) {t : Tok} (ht : TokOk t) : (tbits L D t).length ≤ 48 := by
  unfold tbits
  split
  · have := cbits_le hL t.lit.toNat; omega
  · next h =>
    have h1 := cbits_le hL (lenSym t.len.toNat).1
    have h2 := cbits_le hD (distSym t.dist.toNat).1
    have h3 : 3 ≤ t.len ∧ t.len ≤ 258 ∧ 1 ≤ t.dist ∧ t.dist ≤ 32768 := by rcases ht with h4 | h4 <;> omega
    have h4 := lenSym_bd (n := t.len.toNat) (by omega)
    have h5 := distSym_bd (n := t.dist.toNat) (by omega)
    rw [List.length_append, List.length_append, List.length_append, bitsOf_length, bitsOf_length]
    omega
theorem toksB_le {L D : List Int} (hL : ∀ x ∈ L, 0 ≤ x ∧ x ≤ 15) (hD : ∀ x ∈ D, 0 ≤ x ∧ x ≤ 15) {l : List Tok} (ht : ∀ t ∈ l, TokOk t) : (toksB L D l).length ≤ 48 * l.length :=
  flat_le l fun t h => tbits_le hL hD (ht t h)
theorem bodyB_le {L D : List Int} (hL : ∀ x ∈ L, 0 ≤ x ∧ x ≤ 15) (hD : ∀ x ∈ D, 0 ≤ x ∧ x ≤ 15) {l : List Tok} (ht : ∀ t ∈ l, TokOk t) : (bodyB L D l).length ≤ 48 * l.length + 15 := by
  have h1 := toksB_le hL hD ht
  have h2 := cbits_le hL 256
  unfold bodyB
  rw [List.length_append]
  omega
theorem fixL_ok : fixL.length = 288 ∧ cerrF fixL = 0 ∧ terrF fixL = 0 := by decide +kernel
theorem fixD_ok : fixD.length = 32 ∧ cerrF fixD = 0 ∧ terrF fixD = 0 := by decide +kernel
theorem fixL_bd : ∀ x ∈ fixL, 0 ≤ x ∧ x ≤ 15 := by decide +kernel
theorem fixD_bd : ∀ x ∈ fixD, 0 ≤ x ∧ x ≤ 15 := by decide +kernel
theorem fixL_pos : ∀ s : Fin 288, 0 < fixL.getD s.1 0 := by decide +kernel
theorem fixD_pos : ∀ s : Fin 32, 0 < fixD.getD s.1 0 := by decide +kernel
end Go.Proofs.Ytnebacnmbigaaaa
/- flate: the walk of the fixed codes' lengths. -/
namespace Go.Proofs.Ytnebacnmbigaaaa
open Go.RowKit

theorem fixL_flat : [List.replicate 144 (8 : Int), List.replicate 112 9, List.replicate 24 7, List.replicate 8 8].flatten = fixL := by
  simp only [List.flatten_cons, List.flatten_nil, List.append_nil]; unfold fixL; simp only [List.append_assoc]
theorem one_row {w : World} {g : Nat} {a : Int} (h : w.heap[g]? = some (.cells #[.int .i64 a] 3)) : Rd w 1 (.slice (some ⟨g, 0, none⟩) 1 1) 1 (nums [a]) := by
  refine ⟨rfl, _, _, rfl, Nat.le_refl _, by decide, by simp, fun ad had j u hu => ?_⟩
  obtain rfl := Option.some.inj had
  rw [Addr.add_lit, Nat.zero_add, cell_of_block h]
  have : j = 0 := by have := (List.getElem?_eq_some_iff.1 hu).1; simpa [nums] using this
  subst this
  exact hu

set_option maxRecDepth 100000 in
set_option maxHeartbeats 3200000 in
theorem fixed_any (w : World) : Calls Try.prog 16 #[] w (Ret fun r w' => ∃ v u, r = .tuple #[v, u] ∧ Own w w' [slc 3 1 u 32 (nums fixD), slc 3 1 v 288 (nums fixL)]) := by
  have H := Own.start w
  go_enter Try.func16, Try.ntmps16
  go_wp2_with fail
  refine (repeat_any 144 (one_row (H.alloc (.cells #[.int .i64 8] 3)).block.1) (by omega)).mono ?_
  rintro e w1 ⟨v1, rfl, H1⟩
  have H := (H.alloc (.cells #[.int .i64 8] 3)).drop.join H1
  obtain ⟨a1, c1, rfl, -⟩ := H.rd.shape
  clear H1
  go_wp2_with fail
  refine (repeat_any 112 (one_row (H.alloc (.cells #[.int .i64 9] 3)).block.1) (by omega)).mono ?_
  rintro e w2 ⟨v2, rfl, H2⟩
  have H := (H.alloc (.cells #[.int .i64 9] 3)).drop.join H2
  obtain ⟨a2, c2, rfl, -⟩ := H.rd.shape
  clear H2
  go_wp2_with fail
  refine (repeat_any 24 (one_row (H.alloc (.cells #[.int .i64 7] 3)).block.1) (by omega)).mono ?_
  rintro e w3 ⟨v3, rfl, H3⟩
  have H := (H.alloc (.cells #[.int .i64 7] 3)).drop.join H3
  obtain ⟨a3, c3, rfl, -⟩ := H.rd.shape
  clear H3
  go_wp2_with fail
  refine (repeat_any 8 (one_row (H.alloc (.cells #[.int .i64 8] 3)).block.1) (by omega)).mono ?_
  rintro e w4 ⟨v4, rfl, H4⟩
  have H := (H.alloc (.cells #[.int .i64 8] 3)).drop.join H4
  obtain ⟨a4, c4, rfl, -⟩ := H.rd.shape
  clear H4
  go_wp2_with fail
  have H5 := H.alloc (.cells #[.slice a1 144 c1, .slice a2 112 c2, .slice a3 24 c3, .slice a4 8 c4] 31)
  have hrow : Rd (w4.alloc (.cells #[.slice a1 144 c1, .slice a2 112 c2, .slice a3 24 c3, .slice a4 8 c4] 31)) 1 (.slice (some ⟨w4.heap.size, 0, none⟩) 4 4) 4 [.slice a1 144 c1, .slice a2 112 c2, .slice a3 24 c3, .slice a4 8 c4] := by
    refine ⟨rfl, _, _, rfl, Nat.le_refl _, by decide, by simp, fun ad had j u hu => ?_⟩
    obtain rfl := Option.some.inj had
    rw [Addr.add_lit, Nat.zero_add, H5.cell]
    simpa using hu
  have h8 := (H5.front 1 rfl).rd
  have h24 := (H5.front 2 rfl).rd
  have h112 := (H5.front 3 rfl).rd
  have h144 := (H5.front 4 rfl).rd
  have hcc := concat_any [List.replicate 144 (8 : Int), List.replicate 112 9, List.replicate 24 7, List.replicate 8 8] [.slice a1 144 c1, .slice a2 112 c2, .slice a3 24 c3, .slice a4 8 c4] hrow rfl rfl (by omega) (fun k u L hu hL => by
    match k with
    | 0 => cases hu; cases hL; exact h144
    | 1 => cases hu; cases hL; exact h112
    | 2 => cases hu; cases hL; exact h24
    | 3 => cases hu; cases hL; exact h8
    | k + 4 => cases hu) (by rw [fixL_flat, fixL_ok.1]; omega)
  rw [fixL_flat, fixL_ok.1] at hcc
  refine hcc.mono ?_
  rintro e w5 ⟨v5, rfl, H6⟩
  have H := H5.bare.join H6
  obtain ⟨a5, c5, rfl, -⟩ := H.rd.shape
  clear H6 H5 hcc hrow h8 h24 h112 h144
  go_wp2_with fail
  refine (repeat_any 32 (one_row (H.alloc (.cells #[.int .i64 5] 3)).block.1) (by omega)).mono ?_
  rintro e w6 ⟨v6, rfl, H6⟩
  have H := (H.alloc (.cells #[.int .i64 5] 3)).drop.join H6
  obtain ⟨a6, c6, rfl, -⟩ := H.rd.shape
  clear H6
  go_wp2_with fail
  go_ret2
  exact ⟨_, rfl, _, _, rfl, H⟩
end Go.Proofs.Ytnebacnmbigaaaa
/- inflate: the walk of fixed. -/
namespace Go.Proofs.Ytnebacnmbigaaaa
open Go.RowKit

theorem fixTab_eq : fixTab = (fixL, fixD) := by
  unfold fixTab fixL fixD
  rfl
theorem fix_terr : terrF fixL = 0 ∧ terrF fixD = 0 := by decide +kernel
theorem fix_ok : TabOk fixL ∧ TabOk fixD := by
  refine ⟨⟨?_, by decide +kernel, by decide +kernel⟩, ⟨?_, by decide +kernel, by decide +kernel⟩⟩
  · have : fixL.all (fun x => decide (0 ≤ x ∧ x ≤ 15)) = true := by decide +kernel
    intro x hx
    simpa using List.all_eq_true.1 this x hx
  · have : fixD.all (fun x => decide (0 ≤ x ∧ x ≤ 15)) = true := by decide +kernel
    intro x hx
    simpa using List.all_eq_true.1 this x hx
set_option maxRecDepth 100000 in
set_option maxHeartbeats 3200000 in
theorem infixed_any (w : World) : Calls Try.prog 32 #[] w (Ret fun r w' => ∃ a b, r = .tuple #[.pointer (some ⟨a, 0, none⟩), .pointer (some ⟨b, 0, none⟩)] ∧ Own w w' [Tbl b fixD, Tbl a fixL]) := by
  have H := Own.start w
  go_enter Try.func32, Try.ntmps32
  go_wp2_with fail
  refine (repeat_any 144 (one_row (H.alloc (.cells #[.int .i64 8] 3)).block.1) (by omega)).mono ?_
  rintro e w1 ⟨v1, rfl, H1⟩
  have H := (H.alloc (.cells #[.int .i64 8] 3)).drop.join H1
  obtain ⟨a1, c1, rfl, -⟩ := H.rd.shape
  clear H1
  go_wp2_with fail
  refine (repeat_any 112 (one_row (H.alloc (.cells #[.int .i64 9] 3)).block.1) (by omega)).mono ?_
  rintro e w2 ⟨v2, rfl, H2⟩
  have H := (H.alloc (.cells #[.int .i64 9] 3)).drop.join H2
  obtain ⟨a2, c2, rfl, -⟩ := H.rd.shape
  clear H2
  go_wp2_with fail
  refine (repeat_any 24 (one_row (H.alloc (.cells #[.int .i64 7] 3)).block.1) (by omega)).mono ?_
  rintro e w3 ⟨v3, rfl, H3⟩
  have H := (H.alloc (.cells #[.int .i64 7] 3)).drop.join H3
  obtain ⟨a3, c3, rfl, -⟩ := H.rd.shape
  clear H3
  go_wp2_with fail
  refine (repeat_any 8 (one_row (H.alloc (.cells #[.int .i64 8] 3)).block.1) (by omega)).mono ?_
  rintro e w4 ⟨v4, rfl, H4⟩
  have H := (H.alloc (.cells #[.int .i64 8] 3)).drop.join H4
  obtain ⟨a4, c4, rfl, -⟩ := H.rd.shape
  clear H4
  go_wp2_with fail
  have H5 := H.alloc (.cells #[.slice a1 144 c1, .slice a2 112 c2, .slice a3 24 c3, .slice a4 8 c4] 31)
  have hrow : Rd (w4.alloc (.cells #[.slice a1 144 c1, .slice a2 112 c2, .slice a3 24 c3, .slice a4 8 c4] 31)) 1 (.slice (some ⟨w4.heap.size, 0, none⟩) 4 4) 4 [.slice a1 144 c1, .slice a2 112 c2, .slice a3 24 c3, .slice a4 8 c4] := by
    refine ⟨rfl, _, _, rfl, Nat.le_refl _, by decide, by simp, fun ad had j u hu => ?_⟩
    obtain rfl := Option.some.inj had
    rw [Addr.add_lit, Nat.zero_add, H5.cell]
    simpa using hu
  have h8 := (H5.front 1 rfl).rd
  have h24 := (H5.front 2 rfl).rd
  have h112 := (H5.front 3 rfl).rd
  have h144 := (H5.front 4 rfl).rd
  have hcc := concat_any [List.replicate 144 (8 : Int), List.replicate 112 9, List.replicate 24 7, List.replicate 8 8] [.slice a1 144 c1, .slice a2 112 c2, .slice a3 24 c3, .slice a4 8 c4] hrow rfl rfl (by omega) (fun k u L hu hL => by
    match k with
    | 0 => cases hu; cases hL; exact h144
    | 1 => cases hu; cases hL; exact h112
    | 2 => cases hu; cases hL; exact h24
    | 3 => cases hu; cases hL; exact h8
    | k + 4 => cases hu) (by rw [fixL_flat, fixL_ok.1]; omega)
  rw [fixL_flat, fixL_ok.1] at hcc
  refine hcc.mono ?_
  rintro e w5 ⟨v5, rfl, H6⟩
  have H7 : Own w w5 [slc 3 1 v5 288 (nums fixL)] := H5.bare.join H6
  obtain ⟨a5, c5, rfl, -⟩ := H7.rd.shape
  clear H6 H5 hcc hrow h8 h24 h112 h144 H
  go_wp2_with fail
  refine (hnew_any H7.rd (by omega)).mono ?_
  rintro e w6 ⟨_, rfl, pv, rfl, -, hn2⟩
  rw [fix_terr.1]
  obtain ⟨g, rfl, H8⟩ := hn2 fix_terr.1
  have H := H7.drop.join H8
  clear H8 H7 hn2
  go_wp2_with fail
  refine (repeat_any 32 (one_row (H.alloc (.cells #[.int .i64 5] 3)).block.1) (by omega)).mono ?_
  rintro e w7 ⟨v6, rfl, H6⟩
  have H7 := (H.alloc (.cells #[.int .i64 5] 3)).drop.join H6
  obtain ⟨a6, c6, rfl, -⟩ := H7.rd.shape
  clear H6 H
  go_wp2_with fail
  refine (hnew_any (F := fixD) H7.rd (by omega)).mono ?_
  rintro e w8 ⟨_, rfl, pv, rfl, -, hn2⟩
  rw [fix_terr.2]
  obtain ⟨g2, rfl, H8⟩ := hn2 fix_terr.2
  have H := H7.drop.join H8
  clear H8 H7 hn2
  go_wp2_with fail
  go_ret2
  exact ⟨_, rfl, _, _, rfl, H⟩
end Go.Proofs.Ytnebacnmbigaaaa
/- As XTrk: of each operation it is told that the tracked ones it waits for were done. No program in sight. (Written by tools/trd.py.) -/
namespace Go.Proofs.Ytnebacnmbigaaaa.Trd
open Go.RowKit

def trk (tw : List Nat) (i : Nat) (v : Value) (σ : Sig) : Sig := if i ∈ tw then σ.upd i v else σ
def Deps (o : Oper) (k : Nat) : Prop := ∃ e ∈ o.after, Region.binds .any e = true ∧ e.on = k
/-- In every world that meets S the operation yields v, and S holds behind it. -/
def Calm1 (P : Program) (S : Sig → World → Prop) (tw : List Nat) (i : Nat) (o : Oper) (a : Act) (v : Value) : Prop :=
  ∀ σ w, S σ w → (i ∈ tw → σ i = none) → (∀ k ∈ tw, Deps o k → (σ k).isSome = true) → ∀ (K : Act → World → Prop) (Q : Exit → Act → World → Prop), (∀ w', S (trk tw i v σ) w' → K (a.put o.dst v) w') → o.wp P a w K Q

def New1 (P : Program) (S : Sig → World → Prop) (tw : List Nat) (i : Nat) (o : Oper) (a : Act) : Prop :=
  ∀ σ w, S σ w → (∀ k ∈ tw, Deps o k → (σ k).isSome = true) → ∀ (K : Act → World → Prop) (Q : Exit → Act → World → Prop), (∀ v w', S (σ.upd i v) w' → K (a.put o.dst v) w') → o.wp P a w K Q

def calm (P : Program) (ops : Array Oper) (S : Sig → World → Prop) (nw tw : List Nat) (R : Act → Prop) : Nat → List Oper → Act → Prop
  | _, [], a => R a
  | i, o :: rest, a => (i ∈ nw ∧ New1 P S tw i o a ∧ calm P ops S nw tw R (i + 1) rest a) ∨
      (i ∉ nw ∧ Region.wanted o (yielded ops a.tmps) = true ∧ ∃ v, Calm1 P S tw i o a v ∧ calm P ops S nw tw R (i + 1) rest (a.put o.dst v)) ∨
      (i ∉ nw ∧ Region.wanted o (yielded ops a.tmps) = false ∧ calm P ops S nw tw R (i + 1) rest (a.put o.dst undef))

section
variable {P : Program} {ops : Array Oper} {S : Sig → World → Prop} {nw tw : List Nat} {R : Act → Prop} {a : Act} {o : Oper} {rest : List Oper} {i : Nat}
theorem calm_nil (h : R a) : calm P ops S nw tw R i [] a := h
theorem calm_step (v : Value) (hi : i ∉ nw) (hw : Region.wanted o (yielded ops a.tmps) = true)
    (h1 : ∀ σ w, S σ w → (i ∈ tw → σ i = none) → (∀ k ∈ tw, Deps o k → (σ k).isSome = true) → ∀ (K : Act → World → Prop) (Q : Exit → Act → World → Prop), (∀ w', S (trk tw i v σ) w' → K (a.put o.dst v) w') → o.wp P a w K Q) (h : calm P ops S nw tw R (i + 1) rest (a.put o.dst v)) : calm P ops S nw tw R i (o :: rest) a := .inr (.inl ⟨hi, hw, v, h1, h⟩)
theorem calm_skip (hi : i ∉ nw) (hw : Region.wanted o (yielded ops a.tmps) = false)
    (h : calm P ops S nw tw R (i + 1) rest (a.put o.dst undef)) : calm P ops S nw tw R i (o :: rest) a := .inr (.inr ⟨hi, hw, h⟩)
theorem calm_new (hi : i ∈ nw)
    (h1 : ∀ σ w, S σ w → (∀ k ∈ tw, Deps o k → (σ k).isSome = true) → ∀ (K : Act → World → Prop) (Q : Exit → Act → World → Prop), (∀ v w', S (σ.upd i v) w' → K (a.put o.dst v) w') → o.wp P a w K Q) (h : calm P ops S nw tw R (i + 1) rest a) : calm P ops S nw tw R i (o :: rest) a := .inl ⟨hi, h1, h⟩
end

section
variable {P : Program} {ops : Array Oper} {S : Sig → World → Prop} {nw tw : List Nat}
theorem calm_frames {R : Act → Prop} : ∀ (l : List Oper) (i : Nat) (a : Act), calm P ops S nw tw R i l a →
    ∃ vs : List Value, vs.length = l.length ∧ R (frames ((dets nw i l).zip vs) a) ∧
      ∀ k o, l[k]? = some o → ∃ v, vs[k]? = some v ∧
        ((i + k ∈ nw ∧ New1 P S tw (i + k) o (frames (((dets nw i l).zip vs).take k) a)) ∨
         (i + k ∉ nw ∧ Region.wanted o (yielded ops (frames (((dets nw i l).zip vs).take k) a).tmps) = true ∧ Calm1 P S tw (i + k) o (frames (((dets nw i l).zip vs).take k) a) v) ∨
         (i + k ∉ nw ∧ Region.wanted o (yielded ops (frames (((dets nw i l).zip vs).take k) a).tmps) = false ∧ v = undef)) := by
  intro l
  induction l with
  | nil => intro i a h; exact ⟨[], rfl, h, fun k o hk => by simp at hk⟩
  | cons o l ih =>
    intro i a h
    have step : ∀ (v : Value) (a' : Act), a' = a.put (if i ∈ nw then none else o.dst) v → calm P ops S nw tw R (i + 1) l a' →
        ((i ∈ nw ∧ New1 P S tw i o a) ∨ (i ∉ nw ∧ Region.wanted o (yielded ops a.tmps) = true ∧ Calm1 P S tw i o a v) ∨ (i ∉ nw ∧ Region.wanted o (yielded ops a.tmps) = false ∧ v = undef)) → ∃ vs : List Value, vs.length = (o :: l).length ∧ R (frames ((dets nw i (o :: l)).zip vs) a) ∧
      ∀ k o', (o :: l)[k]? = some o' → ∃ v, vs[k]? = some v ∧
        ((i + k ∈ nw ∧ New1 P S tw (i + k) o' (frames (((dets nw i (o :: l)).zip vs).take k) a)) ∨
         (i + k ∉ nw ∧ Region.wanted o' (yielded ops (frames (((dets nw i (o :: l)).zip vs).take k) a).tmps) = true ∧ Calm1 P S tw (i + k) o' (frames (((dets nw i (o :: l)).zip vs).take k) a) v) ∨
         (i + k ∉ nw ∧ Region.wanted o' (yielded ops (frames (((dets nw i (o :: l)).zip vs).take k) a).tmps) = false ∧ v = undef)) := by
      intro v a' ha hc h0
      obtain ⟨vs, hl, hR, hk⟩ := ih _ _ hc
      refine ⟨v :: vs, by simp [hl], by rw [ha] at hR; exact hR, fun k o' hk' => ?_⟩
      cases k with
      | zero => simp at hk'; subst hk'; exact ⟨v, rfl, h0⟩
      | succ k =>
        have := hk k o' (by simpa using hk')
        rw [ha, show i + 1 + k = i + (k + 1) by omega] at this
        exact this
    rcases h with ⟨hi, h1, h2⟩ | ⟨hi, hw, v, h1, h2⟩ | ⟨hi, hw, h2⟩
    · exact step undef a (by rw [if_pos hi]; rfl) h2 (.inl ⟨hi, h1⟩)
    · exact step v _ (by rw [if_neg hi]) h2 (.inr (.inl ⟨hi, hw, h1⟩))
    · exact step undef _ (by rw [if_neg hi]) h2 (.inr (.inr ⟨hi, hw, rfl⟩))

theorem Calm1.at {tw : List Nat} {i : Nat} {o : Oper} {a a' : Act} {v : Value} (h : Calm1 P S tw i o a v) (he : execOp a'.eval o = execOp a.eval o) (hs : a.tmps.size = a'.tmps.size) {σ : Sig} {w : World} (hw : S σ w) (hfr : i ∈ tw → σ i = none) (hdp : ∀ k ∈ tw, Deps o k → (σ k).isSome = true)
    (K : Act → World → Prop) (Q : Exit → Act → World → Prop) (hK : ∀ w', S (trk tw i v σ) w' → K (a'.put o.dst v) w') : o.wp P a' w K Q := by
  have h1 := h σ w hw hfr hdp (fun a1 w1 => a1 = a.put o.dst v ∧ S (trk tw i v σ) w1) (fun _ _ _ => False) (fun w' hw' => ⟨rfl, hw'⟩)
  unfold Oper.wp at *
  rw [he]
  generalize (execOp a.eval o).run P w = r at *
  cases r with
  | ok n w' =>
    cases n <;> simp only [Oper.upon] at h1 ⊢
    case value u => rw [put_eq hs h1.1]; exact hK _ h1.2
    case skip => rw [put_eq hs h1.1]; exact hK _ h1.2
    case defer d =>
      have := congrArg (fun x => x.defers.length) h1.1
      cases hd : o.dst <;> simp [Act.put, hd] at this
    case enter f args =>
      refine Calls.mono h1 fun e w'' he => ?_
      cases e with
      | returned u =>
        show K (a'.put o.dst u) w''
        rw [put_eq hs he.1]; exact hK _ he.2
      | panicked c => exact he.elim
      | outgrown => obtain ⟨_, _, hh⟩ := he; exact hh.elim
    case row row args => exact Rows.mono h1 fun u w'' he => by rw [put_eq hs he.1]; exact hK _ he.2
  | halt x w' => cases x <;> simp only [Oper.upon] at h1 ⊢
theorem New1.at {tw : List Nat} {i : Nat} {o : Oper} {a a' : Act} (h : New1 P S tw i o a) (he : execOp a'.eval o = execOp a.eval o) (hs : a.tmps.size = a'.tmps.size) {σ : Sig} {w : World} (hw : S σ w) (hdp : ∀ k ∈ tw, Deps o k → (σ k).isSome = true)
    (K : Act → World → Prop) (Q : Exit → Act → World → Prop) (hK : ∀ v w', S (σ.upd i v) w' → K (a'.put o.dst v) w') : o.wp P a' w K Q := by
  have h1 := h σ w hw hdp (fun a1 w1 => ∃ v, a1 = a.put o.dst v ∧ S (σ.upd i v) w1) (fun _ _ _ => False) (fun v w' hw' => ⟨v, rfl, hw'⟩)
  unfold Oper.wp at *
  rw [he]
  generalize (execOp a.eval o).run P w = r at *
  cases r with
  | ok n w' =>
    cases n <;> simp only [Oper.upon] at h1 ⊢
    case value u => obtain ⟨v, e1, e2⟩ := h1; rw [put_eq hs e1]; exact hK _ _ e2
    case skip => obtain ⟨v, e1, e2⟩ := h1; rw [put_eq hs e1]; exact hK _ _ e2
    case defer d =>
      obtain ⟨v, e1, e2⟩ := h1
      have := congrArg (fun x => x.defers.length) e1
      cases hd : o.dst <;> simp [Act.put, hd] at this
    case enter f args =>
      refine Calls.mono h1 fun e w'' he => ?_
      cases e with
      | returned u =>
        show K (a'.put o.dst u) w''
        obtain ⟨v, e1, e2⟩ := he
        rw [put_eq hs e1]; exact hK _ _ e2
      | panicked c => exact he.elim
      | outgrown => obtain ⟨_, _, hh⟩ := he; exact hh.elim
    case row row args => exact Rows.mono h1 fun u w'' he => by obtain ⟨v, e1, e2⟩ := he; rw [put_eq hs e1]; exact hK _ _ e2
  | halt x w' => cases x <;> simp only [Oper.upon] at h1 ⊢
theorem wpAny_new {Q : Exit → Act → World → Prop} {a a0 : Act} {w : World} {l : List Oper} (S : Sig → World → Prop) (n : Nat) (nw tw : List Nat) (pre : List Nat) (htw : ∀ k ∈ tw, k < n ∧ k ∉ nw ∧ k ∉ pre ∧ ∀ o, l[k]? = some o → o.guard = none) (hpd0 : ∀ p ∈ pre, ∀ o, l[p]? = some o → ∀ k ∈ tw, ¬ Deps o k) (hok : calmOk l.toArray n nw pre = true) (hS : S Sig.no w)
    (h : calm P l.toArray S nw tw (fun a' => ∀ σ w', (∀ k ∈ nw, (σ k).isSome = true) → (∀ k ∈ tw, (σ k).isSome = true) → S σ w' → wpList P l.toArray Q (l.drop n) (putNew l nw σ a') w') 0 (l.take n) a)
    (listed0 : Array Bool) (hs0 : listed0.size = l.length) (hl0 : ∀ k, k < l.length → listed0.getD k true = true → k ∈ pre) (hp0 : ∀ p ∈ pre, listed0.getD p true = true)
    (ha0 : PreRun P l pre a a0) :
    wpAny P .any l.toArray Q (left listed0) listed0 a0 w := by
  have g := good_of hok
  have hnl : n ≤ l.length := by simpa using g.le
  obtain ⟨vs, hvl, hR, hk⟩ := calm_frames _ _ _ h
  have hvn : vs.length = n := by simp [hvl, hnl]
  obtain ⟨D, hD⟩ : ∃ D, (dets nw 0 (l.take n)).zip vs = D := ⟨_, rfl⟩
  rw [hD] at hR hk
  simp only [Nat.zero_add] at hk
  have hDl : D.length = n := by rw [← hD]; simp [dets_length, hvn, hnl]
  have hget : ∀ k, k < n → (dets nw 0 (l.take n))[k]? = (l[k]?).map fun o => if k ∈ nw then none else o.dst := by
    intro k hk
    rw [dets_get]
    simp [hk]
  -- the k-th of D
  have hDk : ∀ (k : Nat) (o : Oper) (v : Value), k < n → k ∉ nw → l[k]? = some o → vs[k]? = some v → D[k]? = some (o.dst, v) := by
    intro k o v hkn hnk ho hv
    rw [← hD, List.getElem?_zip_eq_some]
    refine ⟨?_, hv⟩
    rw [hget k hkn, ho]
    simp [hnk]
  have hDd : ∀ (k : Nat) (t : Tmp) (v : Value), D[k]? = some (some t, v) → k < n ∧ k ∉ nw ∧ ∃ o, l[k]? = some o ∧ o.dst = some t := by
    intro k t v hk
    have hkn : k < n := by rw [← hDl]; exact (List.getElem?_eq_some_iff.1 hk).1
    rw [← hD, List.getElem?_zip_eq_some] at hk
    obtain ⟨h1, _⟩ := hk
    rw [hget k hkn, Option.map_eq_some_iff] at h1
    obtain ⟨o, ho, hd⟩ := h1
    by_cases hnk : k ∈ nw
    · simp [hnk] at hd
    · rw [if_neg hnk] at hd
      exact ⟨hkn, hnk, o, ho, hd⟩
  have huniq : ∀ (j k : Nat) (t : Tmp) (u v : Value), k ≠ j → D[k]? = some (some t, u) → D[j]? ≠ some (some t, v) := by
    intro j k t u v hkj h1 h2
    obtain ⟨hkn, _, ok, hok', hdk⟩ := hDd k _ u h1
    obtain ⟨hjn, _, oj, hoj, hdj⟩ := hDd j _ v h2
    exact (g.pair k j ok oj t hkn hjn hkj (by simpa using hok') (by simpa using hoj) hdk).1 hdj
  -- .. with the new ones' values
  obtain ⟨F, hF⟩ : ∃ F : Sig → Nat → Option (Option Tmp × Value), ∀ σ k, F σ k = if k ∈ nw then (l[k]?).map fun o => (o.dst, (σ k).getD undef) else D[k]? := ⟨_, fun _ _ => rfl⟩
  have hFd : ∀ (σ : Sig) (k : Nat) (t : Tmp) (v : Value), F σ k = some (some t, v) → k < n ∧ ∃ o, l[k]? = some o ∧ o.dst = some t := by
    intro σ k t v hk
    rw [hF] at hk
    by_cases hnk : k ∈ nw
    · rw [if_pos hnk, Option.map_eq_some_iff] at hk
      obtain ⟨o, ho, hd⟩ := hk
      exact ⟨g.newLt k hnk, o, ho, by simp at hd; exact hd.1⟩
    · rw [if_neg hnk] at hk
      obtain ⟨h1, _, h3⟩ := hDd k t v hk
      exact ⟨h1, h3⟩
  have hFu : ∀ (σ : Sig) (j k : Nat) (t : Tmp) (u v : Value), k ≠ j → F σ k = some (some t, u) → F σ j ≠ some (some t, v) := by
    intro σ j k t u v hkj h1 h2
    obtain ⟨hkn, ok, hok', hdk⟩ := hFd σ k _ u h1
    obtain ⟨hjn, oj, hoj, hdj⟩ := hFd σ j _ v h2
    exact (g.pair k j ok oj t hkn hjn hkj (by simpa using hok') (by simpa using hoj) hdk).1 hdj
  have hend : ∀ (E : Nat → Prop) (a' : Act) (σ : Sig), (∀ k, k < n → E k) → Agree (F σ) E a a' → a' = putNew l nw σ (frames D a) := by
    intro E a' σ hall hA
    have hB := agree_frames D huniq a n (by omega)
    rw [List.take_of_length_le (by omega)] at hB
    obtain ⟨k1, k2⟩ := putNew_keeps l σ nw (frames D a)
    refine act_ext ?_ (hA.defers.trans (hB.defers.symm.trans k1.symm))
    apply Array.ext_getElem?
    intro t
    by_cases hts : t < a.tmps.size
    · by_cases hw : ∃ (k : Nat) (v : Value), F σ k = some (some t, v)
      · obtain ⟨k, v, hkv⟩ := hw
        obtain ⟨hkn, o, ho, hd⟩ := hFd σ k _ v hkv
        rw [hA.wrote k t v (hall k hkn) hkv hts]
        have hkv' := hkv
        rw [hF] at hkv
        by_cases hnk : k ∈ nw
        · rw [if_pos hnk, ho] at hkv
          simp at hkv
          rw [putNew_new l σ t k nw _ hnk (by simp [ho, hd]) (fun j hj hdj => ?_) (by rw [hB.size]; exact hts), hkv.2]
          by_cases hjk : j = k
          · exact hjk
          · exfalso
            cases hlj : l[j]? with
            | none => rw [hlj] at hdj; cases hdj
            | some oj =>
              rw [hlj] at hdj
              refine hFu σ j k t v ((σ j).getD undef) (Ne.symm hjk) hkv' ?_
              rw [hF, if_pos hj, hlj]
              simp at hdj
              simp [hdj]
        · rw [if_neg hnk] at hkv
          rw [putNew_old l σ t nw _ fun j hj hdj => ?_, hB.wrote k t v hkn hkv hts]
          cases hlj : l[j]? with
          | none => rw [hlj] at hdj; cases hdj
          | some oj =>
            rw [hlj] at hdj
            refine hFu σ j k t v ((σ j).getD undef) (fun e => hnk (e ▸ hj)) hkv' ?_
            rw [hF, if_pos hj, hlj]
            simp at hdj
            simp [hdj]
      · rw [hA.kept t fun k v _ hkv => hw ⟨k, v, hkv⟩, putNew_old l σ t nw _ fun j hj hdj => ?_, hB.kept t fun k v _ hkv => ?_]
        · obtain ⟨_, hnk, _⟩ := hDd k t v hkv
          exact hw ⟨k, v, by rw [hF, if_neg hnk]; exact hkv⟩
        · cases hlj : l[j]? with
          | none => rw [hlj] at hdj; cases hdj
          | some oj =>
            rw [hlj] at hdj
            refine hw ⟨j, (σ j).getD undef, ?_⟩
            rw [hF, if_pos hj, hlj]
            simp at hdj
            simp [hdj]
    · rw [Array.getElem?_eq_none (show a'.tmps.size ≤ t from by rw [hA.size]; exact Nat.le_of_not_lt hts), Array.getElem?_eq_none (show (putNew l nw σ (frames D a)).tmps.size ≤ t from by rw [k2, hB.size]; exact Nat.le_of_not_lt hts)]
  have main : ∀ (fuel : Nat) (listed : Array Bool) (a' : Act) (w' : World) (σ : Sig), listed.size = l.length → left listed = fuel → (∀ j, n ≤ j → j < l.length → listed.getD j true = false) →
      (∀ k o, k < l.length → listed.getD k true = true → l[k]? = some o → ∀ e ∈ o.after, Region.binds .any e = true → listed.getD e.on false = true) →
      (∀ k ∈ nw, listed.getD k true = true → (σ k).isSome = true) → (∀ k ∈ tw, (listed.getD k true = true → (σ k).isSome = true) ∧ (listed.getD k true = false → σ k = none)) → (∀ p ∈ pre, listed.getD p true = true) →
      Agree (F σ) (fun k => k < n ∧ listed.getD k true = true) a a' → S σ w' → wpAny P .any l.toArray Q fuel listed a' w' := by
    intro fuel
    induction fuel with
    | zero =>
      intro listed a' w' σ hs hl ht hc hσ hτ hP hA hSw
      have hall : ∀ k, k < l.length → listed.getD k true = true := fun k hk => by
        cases hkk : listed.getD k true with
        | true => rfl
        | false => have := left_pos (j := k) (by omega) hkk; omega
      have hn : n = l.length := by
        rcases Nat.lt_or_ge n l.length with h | h
        · have := hall n h; rw [ht n (Nat.le_refl _) h] at this; cases this
        · omega
      refine tail_any g 0 n listed a' w' hs (Nat.le_refl _) (fun k _ hk => hall k hk) ht hl ?_
      rw [hend _ a' σ (fun k hk => ⟨hk, hall k (by omega)⟩) hA]
      exact hR σ w' (fun k hk => hσ k hk (hall k (by have := g.newLt k hk; omega))) (fun k hk => (hτ k hk).1 (hall k (by have := (htw k hk).1; omega))) hSw
    | succ fuel ih =>
      intro listed a' w' σ hs hl ht hc hσ hτ hP hA hSw
      by_cases hpre : ∀ k, k < n → listed.getD k true = true
      · refine tail_any g (fuel + 1) n listed a' w' hs (Nat.le_refl _) (fun k hk _ => hpre k hk) ht hl ?_
        rw [hend _ a' σ (fun k hk => ⟨hk, hpre k hk⟩) hA]
        exact hR σ w' (fun k hk => hσ k hk (hpre k (g.newLt k hk))) (fun k hk => (hτ k hk).1 (hpre k (htw k hk).1)) hSw
      · -- the least that is not listed is ready
        have hex : ∃ k, k < n ∧ listed.getD k true = false := by
          rcases Classical.em (∃ k, k < n ∧ listed.getD k true = false) with h | h
          · exact h
          · exact absurd (fun k hk => by
              cases hkk : listed.getD k true with
              | true => rfl
              | false => exact absurd ⟨k, hk, hkk⟩ h) hpre
        obtain ⟨m, hm, hmin⟩ : ∃ m, (m < n ∧ listed.getD m true = false) ∧ ∀ k, k < m → listed.getD k true = true := by
          obtain ⟨k, hk⟩ := hex
          induction k using Nat.strongRecOn with
          | _ k ihk =>
            rcases Classical.em (∃ j, j < k ∧ listed.getD j true = false) with ⟨j, hj, hjl⟩ | h
            · exact ihk j hj ⟨by omega, hjl⟩
            · refine ⟨k, hk, fun j hj => ?_⟩
              cases hjj : listed.getD j true with
              | true => rfl
              | false => exact absurd ⟨j, hj, hjj⟩ h
        obtain ⟨om, hom⟩ : ∃ o, l[m]? = some o := ⟨_, List.getElem?_eq_getElem (by omega)⟩
        have hready : m ∈ Region.ready .any l.toArray listed := mem_ready.2 ⟨by simp; omega, hm.2, om, by simpa using hom, fun e he hb => by
          have := g.low m om (by simpa using hom) e he hb
          rw [← getD_tf (by omega)]
          exact hmin _ this⟩
        refine ⟨fun h => (by rw [h] at hready; cases hready), fun i hi => ?_⟩
        obtain ⟨hi1, hi2, o, ho, hi3⟩ := mem_ready.1 hi
        have hi1 : i < l.length := by simpa using hi1
        have hol : l[i]? = some o := by simpa using ho
        have hin : i < n := by
          rcases Nat.lt_trichotomy i n with h | h | h
          · exact h
          · -- all that it waits for, and so all, are listed
            subst h
            have hall : ∀ d k, i - k = d → k < i → listed.getD k true = true := by
              intro d
              induction d using Nat.strongRecOn with
              | _ d ihd =>
                intro k hd hk
                by_cases hpk : k ∈ pre
                · exact hP k hpk
                obtain ⟨j, hkj, hji, oj, hoj, hwj⟩ := g.sink (by simpa using hi1) k hk hpk
                obtain ⟨e, he, hb, heq⟩ := waits_spec hwj
                rw [getD_tf (by omega), ← heq]
                rcases Nat.lt_or_ge j i with hlt | hge
                · have hjl := ihd (i - j) (by omega) j rfl hlt
                  exact hc j oj (by omega) hjl (by simpa using hoj) e he hb
                · have : j = i := by omega
                  subst this
                  rw [ho] at hoj
                  cases hoj
                  exact hi3 e he hb
            have := hall _ m rfl hm.1
            rw [hm.2] at this
            cases this
          · obtain ⟨e, he, hb, heq⟩ := waits_spec (g.chain i o h (by simpa using hol))
            have := hi3 e he hb
            rw [heq, ← getD_tf (by omega), ht (i - 1) (by omega) (by omega)] at this
            cases this
        obtain ⟨v, hv, hcase⟩ := hk i o (by simp [hin, hol])
        have hAi := agree_frames D huniq a i (by omega)
        have hsame := same_op (ops := l.toArray) (o := o) (a := frames (D.take i) a) (a' := a') (g.noSel i o ho) (by
          intro t htl
          by_cases hw : ∃ (k : Nat) (u : Value), F σ k = some (some t, u)
          · obtain ⟨k, u, hku⟩ := hw
            obtain ⟨hkn, ok, hok', hdk⟩ := hFd σ k _ u hku
            have hnk : k ∉ nw := fun hnk => g.newApart k hnk ok t (by simpa using hok') hdk i o hin ho htl
            have hDu : D[k]? = some (some t, u) := by rw [hF, if_neg hnk] at hku; exact hku
            by_cases hts : t < a.tmps.size
            · have hki : k ≠ i := fun e => by
                subst e
                rw [hol] at hok'
                cases hok'
                exact g.own k o t hkn ho hdk htl
              rcases (g.pair k i ok o t hkn hin hki (by simpa using hok') ho hdk).2 with h1 | ⟨hlt, hwt⟩ | ⟨hlt, hwt⟩
              · exact absurd htl h1
              · obtain ⟨e, he, hb, heq⟩ := waits_spec hwt
                have hkl : listed.getD k true = true := by
                  rw [getD_tf (by omega), ← heq]; exact hi3 e he hb
                rw [hA.wrote k t u ⟨hkn, hkl⟩ hku hts, hAi.wrote k t u hlt hDu hts]
              · obtain ⟨e, he, hb, heq⟩ := waits_spec hwt
                have hkl : ¬ listed.getD k true = true := fun hkl => by
                  have := hc k ok (by omega) hkl hok' e he hb
                  rw [heq, ← getD_tf (by omega), hi2] at this
                  cases this
                rw [hA.kept t fun k' u' hk' hD' => ?_, hAi.kept t fun k' u' hk' hD' => ?_]
                · by_cases hkk : k' = k
                  · subst hkk; omega
                  · exact huniq k k' t u' u hkk hD' hDu
                · by_cases hkk : k' = k
                  · subst hkk; exact hkl hk'.2
                  · exact hFu σ k k' t u' u hkk hD' hku
            · rw [Array.getElem?_eq_none (show a'.tmps.size ≤ t from by rw [hA.size]; exact Nat.le_of_not_lt hts), Array.getElem?_eq_none (show (frames (D.take i) a).tmps.size ≤ t from by rw [hAi.size]; exact Nat.le_of_not_lt hts)]
          · rw [hA.kept t fun k v _ hkv => hw ⟨k, v, hkv⟩, hAi.kept t fun k v _ hkv => ?_]
            obtain ⟨_, hnk, _⟩ := hDd k t v hkv
            exact hw ⟨k, v, by rw [hF, if_neg hnk]; exact hkv⟩)
        have hset : ∀ k b, (listed.setIfInBounds i true).getD k b = if k = i then true else listed.getD k b := by
          intro k b
          by_cases hki : k = i
          · subst hki; simp [hs, hi1]
          · have : i ≠ k := Ne.symm hki
            simp [Array.getElem?_setIfInBounds_ne this, hki]
        have next : ∀ (σ' : Sig) (u : Value) w'', F σ' i = some (o.dst, u) → Agree (F σ') (fun k => k < n ∧ listed.getD k true = true) a a' → (∀ k ∈ nw, (listed.setIfInBounds i true).getD k true = true → (σ' k).isSome = true) → (∀ k ∈ tw, ((listed.setIfInBounds i true).getD k true = true → (σ' k).isSome = true) ∧ ((listed.setIfInBounds i true).getD k true = false → σ' k = none)) → S σ' w'' →
            wpAny P .any l.toArray Q fuel (listed.setIfInBounds i true) (a'.put o.dst u) w'' := by
          intro σ' u w'' hFi hA' hσ' hτ' hSw''
          refine ih _ _ w'' σ' (by simpa using hs) (by have := left_set (j := i) (by omega) hi2; omega) ?_ ?_ hσ' hτ' (fun p hp => by rw [hset]; split <;> first | rfl | exact hP p hp) ?_ hSw''
          · intro j hj hjl
            rw [hset, if_neg (by omega)]
            exact ht j hj hjl
          · intro k ok hkl hkt hok' e he hb
            rw [hset]
            split
            · rfl
            · rw [hset] at hkt
              by_cases hki : k = i
              · subst hki
                rw [hol] at hok'
                cases hok'
                exact hi3 e he hb
              · rw [if_neg hki] at hkt
                exact hc k ok hkl hkt hok' e he hb
          · have := hA'.put (j := i) hFi (fun k t u' hki hD' e => hFu σ' i k t u' u hki hD' (by rw [hFi, e]))
            refine ⟨this.defers, this.size, fun k t u hk => this.wrote k t u ?_, fun t ht => this.kept t fun k u hk => ht k u ?_⟩
            · obtain ⟨h1, h2⟩ := hk
              rw [hset] at h2
              by_cases hki : k = i
              · exact .inr hki
              · rw [if_neg hki] at h2; exact .inl ⟨h1, h2⟩
            · rw [hset]
              rcases hk with ⟨h1, h2⟩ | rfl
              · exact ⟨h1, by split <;> first | rfl | exact h2⟩
              · exact ⟨hin, by simp⟩
        have hσset : i ∉ nw → ∀ k ∈ nw, (listed.setIfInBounds i true).getD k true = true → (σ k).isSome = true := fun hni k hk hkl => by
          rw [hset, if_neg (fun (e : k = i) => hni (e ▸ hk))] at hkl
          exact hσ k hk hkl
        have hτset : i ∉ tw → ∀ k ∈ tw, ((listed.setIfInBounds i true).getD k true = true → (σ k).isSome = true) ∧ ((listed.setIfInBounds i true).getD k true = false → σ k = none) := fun hni k hk => by
          rw [hset, if_neg (fun (e : k = i) => hni (e ▸ hk))]
          exact hτ k hk
        unfold wpOp
        simp only [ho]
        rcases hcase with ⟨hni, hn1⟩ | ⟨hni, hw1, hc1⟩ | ⟨hni, hw1, rfl⟩
        · have hg := g.newPlain i hni o ho
          rw [show Region.wanted o (yielded l.toArray a'.tmps) = true by simp [Region.wanted, hg]]
          refine .inl (hn1.at hsame.1 (by rw [hAi.size, hA.size]) hSw (fun k hk ⟨e, he, hb, hek⟩ => (hτ k hk).1 (by rw [← hek]; have := hi3 e he hb; rw [getD_tf (by have := (htw k hk).1; omega)]; exact this)) _ _ fun u w'' hSu => ?_)
          refine next (σ.upd i u) u w'' (by rw [hF, if_pos hni, hol]; simp [Sig.upd]) ?_ ?_ ?_ hSu
          · have hne : ∀ k, (k < n ∧ listed.getD k true = true) → F (σ.upd i u) k = F σ k := fun k hk => by
              have hki : k ≠ i := fun e => by subst e; rw [hi2] at hk; cases hk.2
              rw [hF, hF]
              simp [Sig.upd, hki]
            exact ⟨hA.defers, hA.size, fun k t u' hk hD' => hA.wrote k t u' hk (by rw [← hne k hk]; exact hD'), fun t ht => hA.kept t fun k u' hk => by rw [← hne k hk]; exact ht k u' hk⟩
          · intro k hk hkl
            by_cases hki : k = i
            · simp [Sig.upd, hki]
            · rw [hset, if_neg hki] at hkl
              simpa [Sig.upd, hki] using hσ k hk hkl
          · intro k hk
            have hki : k ≠ i := fun e => (htw k hk).2.1 (e ▸ hni)
            rw [hset, if_neg hki]
            simpa [Sig.upd, hki] using hτ k hk
        · rw [hsame.2, hw1]
          by_cases hit : i ∈ tw
          · refine .inl (hc1.at hsame.1 (by rw [hAi.size, hA.size]) hSw (fun hit => (hτ i hit).2 hi2) (fun k hk ⟨e, he, hb, hek⟩ => (hτ k hk).1 (by rw [← hek]; have := hi3 e he hb; rw [getD_tf (by have := (htw k hk).1; omega)]; exact this)) _ _ fun w'' hSu => next (σ.upd i v) v w'' (by rw [hF, if_neg hni]; exact hDk i o v hin hni hol hv) ?_ ?_ ?_ (by rw [trk, if_pos hit] at hSu; exact hSu))
            · have hne : ∀ k, (k < n ∧ listed.getD k true = true) → F (σ.upd i v) k = F σ k := fun k hk => by
                have hki : k ≠ i := fun e => by subst e; rw [hi2] at hk; cases hk.2
                rw [hF, hF]
                simp [Sig.upd, hki]
              exact ⟨hA.defers, hA.size, fun k t u' hk hD' => hA.wrote k t u' hk (by rw [← hne k hk]; exact hD'), fun t ht => hA.kept t fun k u' hk => by rw [← hne k hk]; exact ht k u' hk⟩
            · intro k hk hkl
              by_cases hki : k = i
              · simp [Sig.upd, hki]
              · rw [hset, if_neg hki] at hkl
                simpa [Sig.upd, hki] using hσ k hk hkl
            · intro k hk
              rw [hset]
              by_cases hki : k = i
              · simp [Sig.upd, hki]
              · rw [if_neg hki]
                simpa [Sig.upd, hki] using hτ k hk
          · exact .inl (hc1.at hsame.1 (by rw [hAi.size, hA.size]) hSw (fun hit => (hτ i hit).2 hi2) (fun k hk ⟨e, he, hb, hek⟩ => (hτ k hk).1 (by rw [← hek]; have := hi3 e he hb; rw [getD_tf (by have := (htw k hk).1; omega)]; exact this)) _ _ fun w'' hSu => next σ v w'' (by rw [hF, if_neg hni]; exact hDk i o v hin hni hol hv) hA (hσset hni) (hτset hit) (by rw [trk, if_neg hit] at hSu; exact hSu))
        · rw [hsame.2, hw1]
          have hit : i ∉ tw := fun hit => by
            have := (htw i hit).2.2.2 o hol
            simp [Region.wanted, this] at hw1
          exact next σ undef w' (by rw [hF, if_neg hni]; exact hDk i o undef hin hni hol hv) hA (hσset hni) (hτset hit) hSw
  refine main _ listed0 a0 w Sig.no hs0 rfl (fun j hnj hj => ?_) (fun k o hk hkt ho e he hb => ?_) (fun k hk hkt => ?_) (fun k hk => ?_) hp0 ?_ hS
  · cases hjj : listed0.getD j true with
    | false => rfl
    | true =>
      have := (g.preAny j (hl0 j hj hjj)).1
      omega
  · obtain ⟨_, _, o', ho', _, haf⟩ := g.preAny k (hl0 k hk hkt)
    obtain rfl : o' = o := by simpa [ho] using ho'.symm
    have := g.low k o' (by simpa using ho) e he hb
    rw [← getD_tf (by omega)]
    exact hp0 _ (haf e he hb)
  · exact absurd hk (g.preAny k (hl0 k (by have := g.newLt k hk; omega) hkt)).2.1
  · exact ⟨fun hkt => absurd (hl0 k (by have := (htw k hk).1; omega) hkt) (htw k hk).2.2.1, fun _ => rfl⟩
  · have step : ∀ (r done : List Nat) (a1 : Act), (∀ x ∈ r, x ∈ pre) → preOk l.toArray n nw done r = true → PreRun P l r a1 a0 → Agree (F Sig.no) (fun k => k ∈ done) a a1 →
        (∀ k ∈ done, ∀ o, l[k]? = some o → ∀ e ∈ o.after, Region.binds .any e = true → e.on ∈ done) → Agree (F Sig.no) (fun k => k ∈ r ∨ k ∈ done) a a0 := by
      intro r
      induction r with
      | nil =>
        intro done a1 _ _ hr hA _
        obtain rfl : a0 = a1 := hr
        simpa using hA
      | cons p r ih =>
        intro done a1 hrp hpo hr hA hcl
        obtain ⟨hpn, hpw, hpd, ⟨o, hop, hgd, haf⟩, hpo'⟩ := preOk_cons hpo
        have hop : l[p]? = some o := by simpa using hop
        obtain ⟨o', v, ho', hrun, hr'⟩ := hr
        obtain rfl : o' = o := by simpa [hop] using ho'.symm
        obtain ⟨u, hu, hcase⟩ := hk p o' (by simp [hpn, hop])
        have hAi := agree_frames D huniq a p (by omega)
        have hsame := same_op (ops := l.toArray) (o := o') (a := a1) (a' := frames (D.take p) a) (g.noSel p o' (by simpa using hop)) (by
          intro t htl
          by_cases hts : t < a.tmps.size
          · by_cases hw : ∃ (k : Nat) (u : Value), F Sig.no k = some (some t, u)
            · obtain ⟨k, x, hkx⟩ := hw
              obtain ⟨hkn, ok, hok', hdk⟩ := hFd Sig.no k _ x hkx
              have hnk : k ∉ nw := fun hnk => g.newApart k hnk ok t (by simpa using hok') hdk p o' hpn (by simpa using hop) htl
              have hDu : D[k]? = some (some t, x) := by rw [hF, if_neg hnk] at hkx; exact hkx
              have hkp : k ≠ p := fun e => by
                subst e
                rw [hop] at hok'
                cases hok'
                exact g.own k o' t hkn (by simpa using hop) hdk htl
              rcases (g.pair k p ok o' t hkn hpn hkp (by simpa using hok') (by simpa using hop) hdk).2 with h1 | ⟨hlt, hwt⟩ | ⟨hlt, hwt⟩
              · exact absurd htl h1
              · obtain ⟨e, he, hb, heq⟩ := waits_spec hwt
                have hkd : k ∈ done := heq ▸ haf e he hb
                rw [hA.wrote k t x hkd hkx hts, hAi.wrote k t x hlt hDu hts]
              · obtain ⟨e, he, hb, heq⟩ := waits_spec hwt
                have hkd : k ∉ done := fun hkd => hpd (heq ▸ hcl k hkd ok hok' e he hb)
                rw [hA.kept t fun k' u' hk' hD' => ?_, hAi.kept t fun k' u' hk' hD' => ?_]
                · by_cases hkk : k' = k
                  · subst hkk; omega
                  · exact huniq k k' t u' x hkk hD' hDu
                · by_cases hkk : k' = k
                  · subst hkk; exact hkd hk'
                  · exact hFu Sig.no k k' t u' x hkk hD' hkx
            · rw [hA.kept t fun k v _ hkv => hw ⟨k, v, hkv⟩, hAi.kept t fun k v _ hkv => ?_]
              obtain ⟨_, hnk, _⟩ := hDd k t v hkv
              exact hw ⟨k, v, by rw [hF, if_neg hnk]; exact hkv⟩
          · rw [Array.getElem?_eq_none (show (frames (D.take p) a).tmps.size ≤ t from by rw [hAi.size]; exact Nat.le_of_not_lt hts), Array.getElem?_eq_none (show a1.tmps.size ≤ t from by rw [hA.size]; exact Nat.le_of_not_lt hts)])
        have hput : a1.put o'.dst v = a1.put o'.dst u := by
          rcases hcase with ⟨hni, _⟩ | ⟨_, _, hc1⟩ | ⟨_, hw1, _⟩
          · exact absurd hni hpw
          · have h1 := hc1.at (a' := a1) hsame.1.symm (by rw [hAi.size, hA.size]) hS (fun _ => rfl) (fun k hk hd => absurd hd (hpd0 p (hrp p (by simp)) o' (by simpa using hop) k hk)) (fun a2 _ => a2 = a1.put o'.dst u) (fun _ _ _ => False) (fun _ _ => rfl)
            unfold Oper.wp at h1
            rw [hrun w] at h1
            simpa only [Oper.upon] using h1
          · exfalso
            simp [Region.wanted, hgd] at hw1
        rw [hput] at hr'
        have hFp : F Sig.no p = some (o'.dst, u) := by rw [hF, if_neg hpw]; exact hDk p o' u hpn hpw hop hu
        have hA' := hA.put (j := p) hFp (fun k t u' hki hD' e => hFu Sig.no p k t u' u hki hD' (by rw [hFp, e]))
        have hA2 : Agree (F Sig.no) (fun k => k ∈ p :: done) a (a1.put o'.dst u) :=
          ⟨hA'.defers, hA'.size, fun k t x hk => hA'.wrote k t x (by
            rcases List.mem_cons.1 hk with h | h
            · exact .inr h
            · exact .inl h), fun t ht => hA'.kept t fun k x hk => ht k x (by
            rcases hk with h | h
            · exact List.mem_cons_of_mem _ h
            · exact h ▸ List.mem_cons_self ..)⟩
        have := ih (p :: done) _ (fun x hx => hrp x (by simp [hx])) hpo' hr' hA2 (fun k hk o ho e he hb => by
          rcases List.mem_cons.1 hk with rfl | hk
          · rw [hop] at ho
            cases ho
            exact List.mem_cons_of_mem _ (haf e he hb)
          · exact List.mem_cons_of_mem _ (hcl k hk o ho e he hb))
        refine ⟨this.defers, this.size, fun k t x hk => this.wrote k t x ?_, fun t ht => this.kept t fun k x hk => ht k x ?_⟩
        · rcases hk with hk | hk
          · rcases List.mem_cons.1 hk with rfl | hk
            · exact .inr (List.mem_cons_self ..)
            · exact .inl hk
          · exact .inr (List.mem_cons_of_mem _ hk)
        · rcases hk with hk | hk
          · exact .inl (List.mem_cons_of_mem _ hk)
          · rcases List.mem_cons.1 hk with rfl | hk
            · exact .inl (List.mem_cons_self ..)
            · exact .inr hk
    have h0 : Agree (F Sig.no) (fun k => k ∈ ([] : List Nat)) a a := ⟨rfl, rfl, fun k t v hk _ _ => (by cases hk), fun t _ => rfl⟩
    have := step pre [] a (fun x hx => hx) g.preOrd ha0 h0 (fun k hk => by cases hk)
    refine ⟨this.defers, this.size, fun k t x hk => this.wrote k t x (.inl (hl0 k (by omega) hk.2)), fun t ht => this.kept t fun k x hk => ht k x ?_⟩
    rcases hk with hk | hk
    · exact ⟨(g.preAny k hk).1, hp0 k hk⟩
    · cases hk

theorem wp_region_new {id : Nat} {Q : Exit → Act → World → Prop} {a : Act} {w : World} {l : List Oper} (S : Sig → World → Prop) (n : Nat) (nw tw : List Nat) (htw : ∀ k ∈ tw, k < n ∧ k ∉ nw ∧ ∀ o, l[k]? = some o → o.guard = none) (hm : P.follows .mixedOrders = true) (hok : calmOk l.toArray n nw = true) (hS : S Sig.no w.drew)
    (h : calm P l.toArray S nw tw (fun a' => ∀ σ w', (∀ k ∈ nw, (σ k).isSome = true) → (∀ k ∈ tw, (σ k).isSome = true) → S σ w' → wpList P l.toArray Q (l.drop n) (putNew l nw σ a') w') 0 (l.take n) a) : (Code.region id l.toArray true).wp P Q a w := by
  refine wp_region_any hm ?_
  have hl := left_none l.toArray.size
  have := wpAny_new (a0 := a) S n nw tw [] (fun k hk => ⟨(htw k hk).1, (htw k hk).2.1, by simp, (htw k hk).2.2⟩) (fun p hp => by cases hp) hok hS h (Array.replicate l.toArray.size false) (by simp) (fun k hk hkt => by simp [hk] at hkt) (fun p hp => by cases hp) rfl
  rw [hl] at this
  exact this


theorem calm_value {R : Act → Prop} {a : Act} {o : Oper} {rest : List Oper} {i : Nat} {v : Value} (hi : i ∉ nw) (ht : i ∉ tw) (hw : Region.wanted o (yielded ops a.tmps) = true) (h1 : ∀ σ w, S σ w → (execOp a.eval o).run P w = .ok (.value v) w) (h : calm P ops S nw tw R (i + 1) rest (a.put o.dst v)) : calm P ops S nw tw R i (o :: rest) a :=
  calm_step v hi hw (fun σ w hS _ _ K Q hK => by unfold Oper.wp; rw [h1 σ w hS]; exact hK w (by rw [trk, if_neg ht]; exact hS)) h
theorem calm_track {R : Act → Prop} {a : Act} {o : Oper} {rest : List Oper} {i : Nat} {v : Value} (hi : i ∉ nw) (ht : i ∈ tw) (hw : Region.wanted o (yielded ops a.tmps) = true) (h1 : ∀ σ w, S σ w → σ i = none → (∀ k ∈ tw, Deps o k → (σ k).isSome = true) → ∃ w', (execOp a.eval o).run P w = .ok (.value v) w' ∧ S (σ.upd i v) w') (h : calm P ops S nw tw R (i + 1) rest (a.put o.dst v)) : calm P ops S nw tw R i (o :: rest) a :=
  calm_step v hi hw (fun σ w hS hf hd K Q hK => by
    obtain ⟨w', hr, hs⟩ := h1 σ w hS (hf ht) hd
    unfold Oper.wp
    rw [hr]
    exact hK w' (by rw [trk, if_pos ht]; exact hs)) h
/-- A call whose value is known, of which S is told. -/
theorem calm_call {R : Act → Prop} {a : Act} {o : Oper} {rest : List Oper} {i : Nat} {v : Value} {f : FuncId} {args : Array Value} (hi : i ∉ nw) (hit : i ∈ tw) (hw : Region.wanted o (yielded ops a.tmps) = true) (hr : ∀ w, (execOp a.eval o).run P w = .ok (.enter f args) w)
    (hc : ∀ σ w, S σ w → σ i = none → (∀ k ∈ tw, Deps o k → (σ k).isSome = true) → Calls P f args w fun e w' => e = .returned v ∧ S (σ.upd i v) w') (h : calm P ops S nw tw R (i + 1) rest (a.put o.dst v)) : calm P ops S nw tw R i (o :: rest) a :=
  calm_step v hi hw (fun σ w hS hf hd K Q hK => by
    unfold Oper.wp
    rw [hr w]
    refine (hc σ w hS (hf hit) hd).mono ?_
    rintro e w' ⟨rfl, hS'⟩
    exact hK w' (by rw [trk, if_pos hit]; exact hS')) h
/-- A call whose value is new. -/
theorem calm_newcall {R : Act → Prop} {a : Act} {o : Oper} {rest : List Oper} {i : Nat} {f : FuncId} {args : Array Value} (hi : i ∈ nw) (hr : ∀ w, (execOp a.eval o).run P w = .ok (.enter f args) w)
    (hc : ∀ σ w, S σ w → (∀ k ∈ tw, Deps o k → (σ k).isSome = true) → Calls P f args w fun e w' => ∃ v, e = .returned v ∧ S (σ.upd i v) w') (h : calm P ops S nw tw R (i + 1) rest a) : calm P ops S nw tw R i (o :: rest) a :=
  calm_new hi (fun σ w hS hd K Q hK => by
    unfold Oper.wp
    rw [hr w]
    refine (hc σ w hS hd).mono ?_
    rintro e w' ⟨v, rfl, hS'⟩
    exact hK v w' hS') h
end
end Go.Proofs.Ytnebacnmbigaaaa.Trd
/- inflate: the walk of lengths' inner function. -/
namespace Go.Proofs.Ytnebacnmbigaaaa
open Go.RowKit

/-- A variable that holds lengths. -/
def LenP (b : Nat) (l : List Int) : Piece := ex fun v => star (blk b (.cells #[v] 31)) (slc 3 1 v l.length (nums l))
theorem Own.lenp {w0 w : World} {ps : List Piece} {b : Nat} {l : List Int} (H : Own w0 w (LenP b l :: ps)) : ∃ a c, l.length ≤ c ∧ c ≤ 9223372036854775807 ∧ Own w0 w (blk b (.cells #[.slice a l.length c] 31) :: slc 3 1 (.slice a l.length c) l.length (nums l) :: ps) := by
  obtain ⟨v, H⟩ := H.ex
  replace H := H.star
  obtain ⟨a, c, rfl, h1, h2⟩ := (H.front 1 rfl).rd.shape
  exact ⟨a, c, h1, h2, H⟩
theorem Own.unlenp {w0 w : World} {ps : List Piece} {b m : Nat} {l : List Int} {v : Value} (H : Own w0 w (blk b (.cells #[v] 31) :: slc 3 1 v m (nums l) :: ps)) (hm : m = l.length) : Own w0 w (LenP b l :: ps) := by
  subst hm
  exact Own.unex v (Own.unstar H)
/-- While a row is made, and repeated. -/
def AgS (w0 : World) (h0 : Nat) (x : Int) (k : Nat) (ps : List Piece) (σ : Sig) (w1 : World) : Prop := match σ 4 with
  | some v => (σ 2).isSome = true ∧ Own w0 w1 (slc 3 1 v k (nums (List.replicate k x)) :: blk h0 (.cells #[.int .i64 x] 3) :: ps)
  | none => if (σ 2).isSome then Own w0 w1 (blk h0 (.cells #[.int .i64 x] 3) :: ps) else Own w0 w1 ps ∧ w1.heap.size = h0
theorem AgS.own {w0 : World} {h0 : Nat} {x : Int} {k : Nat} {ps : List Piece} {σ : Sig} {w1 : World} (h : AgS w0 h0 x k ps σ w1) : Own w0 w1 ps := by
  unfold AgS at h
  split at h
  · exact h.2.drop.drop
  · split at h
    · exact h.drop
    · exact h.1

/-- What is there, and what is amiss, behind a length again. -/
def agL (N : Nat) (l : List Int) (k : Nat) (x : Int) : List Int := if N < l.length + k then l else l ++ List.replicate k x
def agE (N : Nat) (l : List Int) (k : Nat) (e : Int) : Int := if N < l.length + k then (if e = 0 then 2 else e) else e
theorem nums_append (a b : List Int) : nums a ++ nums b = nums (a ++ b) := by unfold nums; rw [List.map_append]
set_option maxRecDepth 100000 in
set_option maxHeartbeats 1600000 in
theorem inagain_any {w0 w : World} {ps : List Piece} {g rg n bN bR bL : Nat} {s : ByteArray} {l out : List Int} {most e : Int} (x : Int) (k N : Nat) (hk : k ≤ 200) (hN : N ≤ 1000) (hl : l.length ≤ N)
    (H : Own w0 w (LenP bL l :: blk bN (.cells #[.int .i64 N] 3) :: blk bR (.cells #[.pointer (some ⟨g, 0, none⟩)] 55) :: Inr g rg s n out most e :: ps)) :
    Calls Try.prog 77 #[.int .i64 x, .int .i64 k, .pointer (some ⟨bN, 0, none⟩), .pointer (some ⟨bL, 0, none⟩), .pointer (some ⟨bR, 0, none⟩)] w (Ret fun _ w' => Own w0 w' (LenP bL (agL N l k x) :: blk bN (.cells #[.int .i64 N] 3) :: blk bR (.cells #[.pointer (some ⟨g, 0, none⟩)] 55) :: Inr g rg s n out most (agE N l k e) :: ps)) := by
  obtain ⟨L', hL'⟩ : ∃ L', Hid (agL N l k x = L') := ⟨_, rfl⟩
  obtain ⟨E', hE'⟩ : ∃ E', Hid (agE N l k e = E') := ⟨_, rfl⟩
  rw [hL'.out, hE'.out]
  by_cases hlt : N < l.length + k
  · have e1 : Hid (L' = l) := Lib.hid (by rw [← hL'.out]; unfold agL; rw [if_pos hlt])
    have e2 : Hid ((if e = 0 then 2 else e) = E') := Lib.hid (by rw [← hE'.out]; unfold agE; rw [if_pos hlt])
    have HH := Lib.hid (infail_any (g := g) (rg := rg) 2 (by decide) (H.front 3 rfl))
    rw [e2.out] at HH
    obtain ⟨a, c, h1, h2, HL⟩ := H.lenp
    have c0 := HL.cells
    have c1 := (HL.front 2 rfl).cells
    have c2 := (HL.front 3 rfl).cells
    obtain ⟨M, hM⟩ : ∃ M, Hid (l.length = M) := ⟨_, rfl⟩
    rw [hM.out] at c0 hl hlt
    have hw : IntKind.i64.wrap ((N : Int) - M) = N - M := IntWalk.i64_in _ ⟨by omega, by omega⟩
    have hlt2 : (N : Int) - M < k := by omega
    go_enter Try.func77, Try.ntmps77
    go_wp2_with fail
    refine HH.out.mono ?_
    rintro e1 w1 ⟨_, rfl, H1⟩
    go_wp2
    go_end0
    rw [e1.out]
    exact ⟨_, rfl, (H1.front 3 rfl).front 3 rfl |>.front 3 rfl⟩
  · have e1 : Hid (l ++ List.replicate k x = L') := Lib.hid (by rw [← hL'.out]; unfold agL; rw [if_neg hlt])
    have e2 : Hid (e = E') := Lib.hid (by rw [← hE'.out]; unfold agE; rw [if_neg hlt])
    rw [← e2.out]
    obtain ⟨a, c, h1, h2, HL⟩ := H.lenp
    obtain ⟨M, hM⟩ : ∃ M, Hid (l.length = M) := ⟨_, rfl⟩
    rw [hM.out] at HL hl hlt
    clear H
    have c0 := HL.cells
    have c1 := (HL.front 2 rfl).cells
    have c2 := (HL.front 3 rfl).cells
    have hw : IntKind.i64.wrap ((N : Int) - M) = N - M := IntWalk.i64_in _ ⟨by omega, by omega⟩
    have hlt2 : ¬ (N : Int) - M < k := by omega
    go_enter Try.func77, Try.ntmps77
    go_upto_region 2 with (fail)
    clear c0 c1 c2 hw
    obtain ⟨PS, hPS⟩ : ∃ PS, PS = (blk bL (.cells #[.slice a M c] 31) :: slc 3 1 (.slice a M c) M (nums l) :: blk bN (.cells #[.int .i64 N] 3) :: blk bR (.cells #[.pointer (some ⟨g, 0, none⟩)] 55) :: Inr g rg s n out most e :: ps) := ⟨_, rfl⟩
    have HD0 : AgS w0 w.heap.size x k PS Sig.no w.drew := ⟨hPS ▸ HL.drew, rfl⟩
    replace hPS := Lib.hid hPS
    refine Trd.wp_region_new (AgS w0 w.heap.size x k PS) 5 [4] [2] (by intro k hk; simp at hk; subst hk; exact ⟨by omega, by simp, fun o ho => by simp at ho; subst ho; rfl⟩) (by kernel_rfl) (by kernel_rfl) HD0 ?_
    simp only [List.take_succ_cons, List.take_zero, List.drop_succ_cons, List.drop_zero]
    generalize w.heap.size = h0 at *
    have hcell : ∀ (σ : Sig) (w1 : World), AgS w0 h0 x k PS σ w1 → ∀ i, w1.cell? ⟨bL, i, none⟩ = #[Value.slice a M c][i]? := fun σ w1 hS => by
      have h := hS.own
      rw [hPS.out] at h
      exact h.cells
    replace hcell := Lib.hid hcell
    repeat
      first
      | (refine Trd.calm_value (v := ?_) (by decide) (by decide) rfl (fun σ w1 hS => ?_) ?_
         rotate_left
         · have c0 := hcell.out σ w1 hS
           first | (go_simp; rfl) | rfl
         simp only [Act.put, List.setIfInBounds_toArray, List.set_cons_zero, List.set_cons_succ])
      | (refine Trd.calm_skip (by decide) rfl ?_
         simp only [Act.put, List.setIfInBounds_toArray, List.set_cons_zero, List.set_cons_succ])
    refine Trd.calm_track (v := .slice (some ⟨h0, 0, none⟩) 1 1) (by decide) (by decide) rfl (fun σ w1 hS hn _ => ?_) ?_
    · unfold AgS at hS
      split at hS
      · rw [hn] at hS; cases hS.1
      · next h4 =>
        rw [hn, if_neg (by simp)] at hS
        obtain ⟨hS, hh⟩ := hS
        refine ⟨w1.alloc (.cells #[.int .i64 x] 3), ?_, ?_⟩
        · go_simp
        · unfold AgS
          have e4 : (σ.upd 2 (Value.slice (some ⟨h0, 0, none⟩) 1 1)) 4 = none := by simp [Sig.upd, h4]
          have e2 : (σ.upd 2 (Value.slice (some ⟨h0, 0, none⟩) 1 1)) 2 = some (Value.slice (some ⟨h0, 0, none⟩) 1 1) := by simp [Sig.upd]
          rw [e4, e2]
          simp only [Option.isSome_some, if_true]
          have h := hS.alloc (.cells #[.int .i64 x] 3)
          rwa [hh] at h
    simp only [Act.put, List.setIfInBounds_toArray, List.set_cons_zero, List.set_cons_succ]
    repeat
      first
      | (refine Trd.calm_value (v := ?_) (by decide) (by decide) rfl (fun σ w1 hS => ?_) ?_
         rotate_left
         · have c0 := hcell.out σ w1 hS
           first | (go_simp; rfl) | rfl
         simp only [Act.put, List.setIfInBounds_toArray, List.set_cons_zero, List.set_cons_succ])
      | (refine Trd.calm_skip (by decide) rfl ?_
         simp only [Act.put, List.setIfInBounds_toArray, List.set_cons_zero, List.set_cons_succ])
    refine Trd.calm_newcall (by decide) (fun w1 => (by go_simp; first | exact ⟨rfl, rfl⟩ | rfl)) (fun σ w1 hS hd => ?_) ?_
    · have h2 := hd 2 (by simp) ⟨⟨2, .data⟩, by simp, by decide, rfl⟩
      have hS2 : Own w0 w1 (blk h0 (.cells #[.int .i64 x] 3) :: PS) := by
        unfold AgS at hS
        split at hS
        · exact hS.2.drop
        · rwa [if_pos h2] at hS
      refine (repeat_any k (one_row hS2.block.1) (by omega)).mono ?_
      rintro e3 w3 ⟨v3, rfl, h3⟩
      refine ⟨v3, rfl, ?_⟩
      unfold AgS
      have e4 : (σ.upd 4 v3) 4 = some v3 := by simp [Sig.upd]
      have e2 : (σ.upd 4 v3) 2 = σ 2 := by simp [Sig.upd]
      rw [e4, e2]
      exact ⟨h2, hS2.join h3⟩
    refine Trd.calm_nil ?_
    intro σ wd hσ _ HD
    obtain ⟨v4, hv4⟩ := Option.isSome_iff_exists.1 (hσ 4 (by decide))
    unfold AgS at HD
    rw [hv4] at HD
    replace HD := HD.2
    rw [hPS.out] at HD
    simp only [putNew, List.foldl_cons, List.foldl_nil, hv4]
    simp only [Act.put, List.setIfInBounds_toArray, List.set_cons_zero, List.set_cons_succ, List.getElem?_cons_succ, List.getElem?_cons_zero, Option.bind_some, Option.getD_some]
    clear hcell hσ hv4 HL HD0
    obtain ⟨a4, c4, rfl, -⟩ := HD.rd.shape
    have hx := HD.rd
    have H3 := HD.front 3 rfl
    clear HD
    go_wp2_with (first
      | (at_builtin; refine wpList_append_sep rfl _ _ rfl Try.underlying31 intInfo rfl (by decide) rfl H3 hx (nums_one _) (by omega) (by omega) ?_; clear H3 hx; intro v' w' H; obtain ⟨a', c', rfl, h1', h2'⟩ := H.rd.shape)
      | (refine wpList_store_slice rfl _ _ rfl rfl (H.front 3 rfl) rfl (by kernel_rfl) (by simp) ?_; clear H; intro w2 H))
    go_end0
    rw [nums_append] at H
    have hlen : M + k = (l ++ List.replicate k x).length := by rw [List.length_append, List.length_replicate, hM.out]
    rw [← e1.out]
    exact ⟨_, rfl, Own.unlenp ((H.front 2 rfl).drop.front 2 rfl).drop hlen⟩
end Go.Proofs.Ytnebacnmbigaaaa
/- inflate: the walk of lengths. -/
namespace Go.Proofs.Ytnebacnmbigaaaa
open Go.RowKit

/-- Where lengths stand: as they go on, or a fault. -/
def LSt (bs : List Bool) (G : Got (List Int)) (T : List Int) (N : Nat) (l : List Int) (n : Nat) (e : Int) : Prop := (e = 0 → lengthsG bs T N l n = G) ∧ (e ≠ 0 → ∀ v m, GotR G v m e)
theorem gotR_any {α : Type} {g : Got α} {v v' : α} {m m' : Nat} {e : Int} (h : GotR g v m e) (he : e ≠ 0) : GotR g v' m' e := by
  unfold GotR at *
  cases g with
  | ok v0 n0 => exact absurd h.2.2 he
  | ran => exact h
  | bad e0 => exact h
theorem gotR_bind {α β : Type} {g : Got α} {f : α → Nat → Got β} {v : α} {v' : β} {m m' : Nat} {e : Int} (h : GotR g v m e) (he : e ≠ 0) : GotR (g.bind f) v' m' e := by
  unfold GotR at h ⊢
  cases g with
  | ok v0 n0 => exact absurd h.2.2 he
  | ran => exact h
  | bad e0 => exact h
theorem gotR_ok {α : Type} {g : Got α} {v : α} {m : Nat} (h : GotR g v m 0) (hb : ∀ e, g = .bad e → e ≠ 0) : g = .ok v m := by
  unfold GotR at h
  cases g with
  | ok v0 n0 => rw [h.1, h.2.1]
  | ran => have h : (0 : Int) = 2 := h; omega
  | bad e0 => have h : (0 : Int) = e0 := h; exact absurd h.symm (hb _ rfl)
theorem sym_bad {bs : List Bool} {T : List Int} {n : Nat} : ∀ e, symG bs T n = .bad e → e ≠ 0 := by
  intro e h
  unfold symG at h
  split at h
  · cases h
  · split at h
    · cases h
    · cases h; decide
theorem lst_start {bs : List Bool} {T : List Int} {N n : Nat} : LSt bs (lengthsG bs T N [] n) T N [] n 0 := ⟨fun _ => rfl, fun h => absurd rfl h⟩
theorem lst_end {bs : List Bool} {G : Got (List Int)} {T l : List Int} {N n : Nat} {e : Int} (h : LSt bs G T N l n e) (hx : e ≠ 0 ∨ N ≤ l.length) : GotR G l n e := by
  by_cases he : e = 0
  · subst he
    rw [← h.1 rfl, lengthsG, dif_pos (hx.resolve_left (by simp))]
    exact ⟨rfl, rfl, rfl⟩
  · exact h.2 he _ _
/-- Behind a symbol. -/
theorem lst_sym {bs : List Bool} {G : Got (List Int)} {T l : List Int} {N n n1 : Nat} {c e1 : Int} (h : LSt bs G T N l n 0) (hl : l.length < N) (hs : GotR (symG bs T n) c n1 e1) :
    (e1 ≠ 0 → LSt bs G T N l n1 e1) ∧ (e1 = 0 → (c < 16 → LSt bs G T N (l ++ [c]) n1 0) ∧ (c = 16 → l.length = 0 → ∀ v m, GotR G v m 2) ∧
      (c = 16 → l.length ≠ 0 → G = (takeG bs 2 n1).bind fun v n2 => if N < l.length + (3 + v.toNat) then .bad 2 else lengthsG bs T N (l ++ List.replicate (3 + v.toNat) (l.getD (l.length - 1) 0)) n2) ∧
      (c = 17 → G = (takeG bs 3 n1).bind fun v n2 => if N < l.length + (3 + v.toNat) then .bad 2 else lengthsG bs T N (l ++ List.replicate (3 + v.toNat) 0) n2) ∧
      (17 < c → G = (takeG bs 7 n1).bind fun v n2 => if N < l.length + (11 + v.toNat) then .bad 2 else lengthsG bs T N (l ++ List.replicate (11 + v.toNat) 0) n2)) := by
  have hG := h.1 rfl
  rw [lengthsG, dif_neg (by omega)] at hG
  refine ⟨fun he => ⟨fun h0 => absurd h0 he, fun _ v m => by rw [← hG]; exact gotR_bind hs he⟩, fun he => ?_⟩
  subst he
  rw [gotR_ok hs sym_bad, Got.bind_ok] at hG
  refine ⟨fun hc => ⟨fun _ => ?_, fun h0 => absurd rfl h0⟩, fun hc h0 v m => ?_, fun hc h0 => ?_, fun hc => ?_, fun hc => ?_⟩
  · rw [if_pos hc] at hG; exact hG
  · rw [if_neg (by omega), if_pos hc, if_pos h0] at hG; rw [← hG]; rfl
  · rw [if_neg (by omega), if_pos hc, if_neg h0] at hG; exact hG.symm
  · rw [if_neg (by omega), if_neg (by omega), if_pos hc] at hG; exact hG.symm
  · rw [if_neg (by omega), if_neg (by omega), if_neg (by omega)] at hG; exact hG.symm
/-- Behind a length again. -/
theorem lst_again {s : ByteArray} {G : Got (List Int)} {T l : List Int} {N n1 j b V : Nat} {x : Int} (hj : j ≤ 16) (hn : n1 ≤ 8 * s.size) (hV : tkV s n1 j = V)
    (hG : G = (takeG (textBits s) j n1).bind fun v n2 => if N < l.length + (b + v.toNat) then .bad 2 else lengthsG (textBits s) T N (l ++ List.replicate (b + v.toNat) x) n2) :
    LSt (textBits s) G T N (agL N l (b + V) x) (tkN s n1 j) (agE N l (b + V) (tkE s n1 j 0)) := by
  have h := (tk_got (s := s) (n := n1) (k := j) (by omega) hn).1
  unfold takeG at h hG
  unfold tkE
  split at h
  · next hl =>
    obtain ⟨h1, h2, h3⟩ := h
    rw [if_pos hl, Got.bind_ok, ← h1, ← h2, hV, Int.toNat_natCast] at hG
    have ho : tkOk s n1 j := by
      by_cases ho : tkOk s n1 j
      · exact ho
      · rw [if_neg ho] at h3; omega
    rw [if_pos ho]
    unfold agE agL
    split at hG
    · next hx =>
      rw [if_pos hx, if_pos hx, if_pos rfl]
      exact ⟨fun h => absurd h (by decide), fun _ v m => by rw [hG]; rfl⟩
    · next hx =>
      rw [if_neg hx, if_neg hx]
      exact ⟨fun _ => hG.symm, fun h => absurd rfl h⟩
  · next hl =>
    have h3 : (if tkOk s n1 j then (0 : Int) else 2) = 2 := h
    rw [if_neg hl, Got.bind_ran] at hG
    have ho : ¬ tkOk s n1 j := fun ho => by rw [if_pos ho] at h3; omega
    rw [if_neg ho, if_pos rfl]
    have e2 : agE N l (b + V) 2 = 2 := by unfold agE; split <;> simp
    rw [e2]
    exact ⟨fun h => absurd h (by decide), fun _ v m => by rw [hG]; rfl⟩
theorem agL_len {N k : Nat} {l : List Int} {x : Int} (h : l.length ≤ N) : (agL N l k x).length ≤ N := by
  unfold agL
  split
  · exact h
  · rw [List.length_append, List.length_replicate]; omega
/-- What a round leaves is less. -/
def lmeas (N : Nat) (u e : Value) : Nat := if intOf e = 0 then N + 1 - sliceLen u else 0
theorem agL_less {N k : Nat} {l : List Int} {x e : Int} (hk : 1 ≤ k) (hl : l.length < N) : (if agE N l k e = 0 then N + 1 - (agL N l k x).length else 0) < N + 1 - l.length := by
  unfold agE agL
  by_cases hx : N < l.length + k
  · rw [if_pos hx, if_pos hx]
    by_cases he : e = 0
    · rw [if_pos he, if_neg (by decide)]; omega
    · rw [if_neg he, if_neg he]; omega
  · rw [if_neg hx, if_neg hx, List.length_append, List.length_replicate]
    split <;> omega
theorem Own.inr_e {w0 w : World} {ps : List Piece} {g rg n : Nat} {s : ByteArray} {out : List Int} {most e : Int} (H : Own w0 w (Inr g rg s n out most e :: ps)) : w.cell? ⟨g, 3, none⟩ = some (.int .i64 e) := by
  obtain ⟨a, c, _, _, H⟩ := H.inr
  rw [H.cells]; rfl
theorem Own.lenp_len {w0 w : World} {ps : List Piece} {b : Nat} {l : List Int} (H : Own w0 w (LenP b l :: ps)) : sliceLen ((w.cell? ⟨b, 0, none⟩).getD undef) = l.length := by
  obtain ⟨a, c, _, _, H⟩ := H.lenp
  rw [H.cells]; rfl

theorem tk_small {s : ByteArray} {n k V : Nat} (hk : k ≤ 7) (h : tkV s n k = V) : V < 128 := by
  unfold tkV at h
  split at h
  · have hb := valOf_bd (((textBits s).drop n).take (k : Int).toNat)
    have hl : (((textBits s).drop n).take (k : Int).toNat).length ≤ 7 := by simp; omega
    have hp := pow2_le hl
    have : (2 : Int) ^ 7 = 128 := rfl
    omega
  · omega
/-- What is behind a length again, taken at once. -/
theorem lmeas_own {w0 w : World} {ps : List Piece} {A B : Piece} {b N g rg n : Nat} {s : ByteArray} {l out : List Int} {most e : Int} (H : Own w0 w (LenP b l :: A :: B :: Inr g rg s n out most e :: ps)) : lmeas N ((w.cell? ⟨b, 0, none⟩).getD undef) ((w.cell? ⟨g, 3, none⟩).getD undef) = if e = 0 then N + 1 - l.length else 0 := by
  unfold lmeas
  rw [H.lenp_len, (H.front 3 rfl).inr_e]
  rfl

/-- What lengths leaves. -/
def LensPost (w0 : World) (ps : List Piece) (g rg t : Nat) (s : ByteArray) (T out : List Int) (most : Int) (N : Nat) (G : Got (List Int)) (r : Value) (w' : World) : Prop :=
  ∃ l n' e', n' ≤ 8 * s.size ∧ l.length ≤ N ∧ (e' = 0 → l.length = N) ∧ GotR G l n' e' ∧ Own w0 w' (slc 3 1 r l.length (nums l) :: Inr g rg s n' out most e' :: Tbl t T :: ps)

set_option maxRecDepth 100000 in
set_option maxHeartbeats 3200000 in
theorem inlengths_any {w0 w : World} {ps : List Piece} {g rg t n : Nat} {s : ByteArray} {T out : List Int} {most : Int} (N : Nat) (hT : TabOk T) (hN : N ≤ 1000) (hs : s.size ≤ 1000000) (hn : n ≤ 8 * s.size) (H : Own w0 w (Inr g rg s n out most 0 :: Tbl t T :: ps)) :
    Calls Try.prog 58 #[.pointer (some ⟨g, 0, none⟩), .pointer (some ⟨t, 0, none⟩), .int .i64 N] w (Ret (LensPost w0 ps g rg t s T out most N (lengthsG (textBits s) T N [] n))) := by
  obtain ⟨G, hG⟩ : ∃ G, Hid (lengthsG (textBits s) T N [] n = G) := ⟨_, rfl⟩
  have hst : Hid (LSt (textBits s) G T N [] n 0) := Lib.hid (by rw [← hG.out]; exact lst_start)
  rw [hG.out]
  have hmf : ∀ (fn : Fn) (first cap : Array Value) (w : World), (Instr.makeFunc fn first cap).run Try.prog w = .ok (.func fn first cap) w := fun _ _ _ _ => rfl
  go_enter Try.func58, Try.ntmps58
  go_upto_region 2 with (fail)
  replace H := H.alloc3 (.cells #[.pointer (some ⟨g, 0, none⟩)] 55) (.cells #[.int .i64 N] 3) (.cells #[.slice none 0 0] 31)
  generalize ((w.alloc (.cells #[.pointer (some ⟨g, 0, none⟩)] 55)).alloc (.cells #[.int .i64 N] 3)).alloc (.cells #[.slice none 0 0] 31) = wa at *
  obtain ⟨bL, hbL⟩ : ∃ g, w.heap.size + 1 + 1 = g := ⟨_, rfl⟩
  rw [hbL] at H ⊢
  obtain ⟨bN, hbN⟩ : ∃ g, w.heap.size + 1 = g := ⟨_, rfl⟩
  rw [hbN] at H ⊢
  generalize w.heap.size = bR at *
  clear hbL hbN
  replace H : Own w0 wa (LenP bL [] :: blk bN (.cells #[.int .i64 N] 3) :: blk bR (.cells #[.pointer (some ⟨g, 0, none⟩)] 55) :: Inr g rg s n out most 0 :: Tbl t T :: ps) := by
    exact Own.unlenp (((H.nil 3 1).front 1 rfl)) rfl
  go_wp2_with fail
  go_loopw [9] (fun _ wx => ∃ (l : List Int) (n1 : Nat) (e : Int), l.length ≤ N ∧ n1 ≤ 8 * s.size ∧ Hid (LSt (textBits s) G T N l n1 e) ∧ Own w0 wx (LenP bL l :: blk bN (.cells #[.int .i64 N] 3) :: blk bR (.cells #[.pointer (some ⟨g, 0, none⟩)] 55) :: Inr g rg s n1 out most e :: Tbl t T :: ps)) (fun _ wx => lmeas N ((wx.cell? ⟨bL, 0, none⟩).getD undef) ((wx.cell? ⟨g, 3, none⟩).getD undef))
  case atStart => exact ⟨[], n, 0, by simp, hn, hst, H⟩
  case round =>
    clear H hst hG
    obtain ⟨l, n1, e, hl, hn1, hst, H⟩ := hrel
    obtain ⟨M, hM⟩ : ∃ M, Hid (l.length = M) := ⟨_, rfl⟩
    have hm0 : Hid (lmeas N ((wr.cell? ⟨bL, 0, none⟩).getD undef) ((wr.cell? ⟨g, 3, none⟩).getD undef) = if e = 0 then N + 1 - M else 0) := Lib.hid (by rw [lmeas_own H, hM.out])
    have ce := (H.front 3 rfl).inr_e
    obtain ⟨a, c, h1, h2, HL⟩ := H.lenp
    rw [hM.out] at HL hl
    have c0 := HL.cells
    have c1 := (HL.front 2 rfl).cells
    have c2 := (HL.front 3 rfl).cells
    by_cases hx : e ≠ 0 ∨ N ≤ M
    · have hend := Lib.hid (lst_end hst.out (hx.imp id fun h => by rw [hM.out]; exact h))
      by_cases hlt : M < N
      · have he : (e == 0) = false := by simp; omega
        have hlt2 : (M : Int) < N := by omega
        clear hx hst hm0
        have HR : Own w0 wr (slc 3 1 (.slice a M c) l.length (nums l) :: Inr g rg s n1 out most e :: Tbl t T :: ps) := by rw [hM.out]; exact ((HL.drop.front 1 rfl).drop.front 1 rfl).drop
        go_wp2
        go_ret
        exact ⟨_, rfl, l, n1, e, hn1, by rw [hM.out]; omega, fun h => absurd h (by simpa using he), hend.out, HR⟩
      · have hlt2 : ¬ (M : Int) < N := by omega
        clear hx hst hm0
        have HR : Own w0 wr (slc 3 1 (.slice a M c) l.length (nums l) :: Inr g rg s n1 out most e :: Tbl t T :: ps) := by rw [hM.out]; exact ((HL.drop.front 1 rfl).drop.front 1 rfl).drop
        go_wp2
        go_ret
        exact ⟨_, rfl, l, n1, e, hn1, by rw [hM.out]; omega, fun h => by rw [hM.out]; omega, hend.out, HR⟩
    · obtain ⟨he, hlt⟩ : e = 0 ∧ M < N := by omega
      subst he
      clear hx
      replace hm0 := Lib.hid (hm0.out.trans (if_pos rfl))
      have hlt2 : (M : Int) < N := by omega
      have hlN : Hid (l.length < N) := Lib.hid (by rw [hM.out]; exact hlt)
      have HSY : Own w0 wr (Inr g rg s n1 out most 0 :: Tbl t T :: LenP bL l :: blk bN (.cells #[.int .i64 N] 3) :: blk bR (.cells #[.pointer (some ⟨g, 0, none⟩)] 55) :: ps) := (H.front 4 rfl).front 4 rfl
      have HS := Lib.hid (insym_any (g := g) (t := t) hT hs hn1 HSY)
      go_wp2_with fail
      refine HS.out.mono ?_
      rintro e0 w1 ⟨_, rfl, v, n2, e1, rfl, -, -, hn2, -, hg, H1⟩
      have hpl := Lib.hid (lst_sym hst.out hlN.out (hg trivial))
      clear HS HSY H HL c0 c1 c2 ce hg hst h1 h2
      have H : Own w0 w1 (LenP bL l :: blk bN (.cells #[.int .i64 N] 3) :: blk bR (.cells #[.pointer (some ⟨g, 0, none⟩)] 55) :: Inr g rg s n2 out most e1 :: Tbl t T :: ps) := (H1.front 4 rfl).front 4 rfl |>.front 4 rfl
      clear H1
      have ce := (H.front 3 rfl).inr_e
      have c1 := (H.front 1 rfl).cells
      have c2 := (H.front 2 rfl).cells
      obtain ⟨ig, ic, ih1, ih2, HI⟩ := (H.front 3 rfl).inr
      by_cases he1 : e1 = 0
      case neg =>
        have heb : (e1 == 0) = false := by simp [he1]
        have hst := Lib.hid (hpl.out.1 he1)
        clear hpl HI
        go_wp2_with fail
        go_roundw
        case rel => exact ⟨l, n2, e1, by rw [hM.out]; omega, hn2, hst, H⟩
        case measure => rw [hm0.out, lmeas_own H, if_neg he1]; omega
      subst he1
      have hpl2 := Lib.hid (hpl.out.2 rfl)
      clear hpl HI
      by_cases hv : v < 16
      · have hst := Lib.hid (hpl2.out.1 hv)
        clear hpl2
        obtain ⟨a, c, h1, h2, HL⟩ := H.lenp
        rw [hM.out] at HL
        clear H
        have c0 := HL.cells
        have H3 := HL.front 1 rfl
        clear HL
        go_wp2_with (first
          | (at_builtin; refine wpList_append_one rfl _ _ rfl Try.underlying31 intInfo rfl (by decide) rfl H3 rfl rfl rfl (by simp [Value.oneCell']) (by omega) (by omega) ?_; clear H3 c0 c1 c2 ce; intro v' w' H; obtain ⟨a', c', rfl, h1', h2'⟩ := H.rd.shape)
          | (refine wpList_store_slice rfl _ _ rfl rfl (H.front 1 rfl) rfl (by kernel_rfl) (by simp) ?_; clear H; intro w2 H))
        have hlen : M + 1 = (l ++ [v]).length := by rw [List.length_append, hM.out]; rfl
        have H4 : Own w0 w2 (LenP bL (l ++ [v]) :: blk bN (.cells #[.int .i64 N] 3) :: blk bR (.cells #[.pointer (some ⟨g, 0, none⟩)] 55) :: Inr g rg s n2 out most 0 :: Tbl t T :: ps) := Own.unlenp (by rw [← nums_append]; exact H) hlen
        clear H
        simp only [Act.put, List.setIfInBounds_toArray, List.set_cons_zero, List.set_cons_succ]
        go_roundw
        case rel => exact ⟨l ++ [v], n2, 0, by omega, hn2, hst, H4⟩
        case measure => rw [hm0.out, lmeas_own H4, if_pos rfl, ← hlen]; omega
      by_cases hv1 : v = 16
      case neg =>
        by_cases hv2 : v = 17
        · subst hv2
          have hG := hpl2.out.2.2.2.1 rfl
          clear hpl2
          have hV := (tk_got (s := s) (n := n2) (k := 3) (by omega) hn2).2
          obtain ⟨V, hv⟩ : ∃ V : Nat, Hid (tkV s n2 ((3 : Nat) : Int) = V) := ⟨(tkV s n2 ((3 : Nat) : Int)).toNat, Lib.hid (by omega)⟩
          have hV2 : V < 128 := tk_small (by omega) hv.out
          have hst := Lib.hid (lst_again (by omega) hn2 hv.out hG)
          have hn3 := hV.1
          clear hV hG
          have HT := Lib.hid (intake_tk 3 (by omega) (H.front 3 rfl) hs hn2)
          obtain ⟨n3, hn3e⟩ : ∃ n3, Hid (tkN s n2 ((3 : Nat) : Int) = n3) := ⟨_, rfl⟩
          obtain ⟨E, hE⟩ : ∃ E, Hid (tkE s n2 ((3 : Nat) : Int) 0 = E) := ⟨_, rfl⟩
          have hE2 : (if tkOk s n2 ((3 : Nat) : Int) then (0 : Int) else if (0 : Int) = 0 then 2 else 0) = E := hE.out
          rw [hv.out, hn3e.out, hE2] at HT
          rw [hn3e.out, hE.out] at hst
          rw [hn3e.out] at hn3
          clear hE2 hE hn3e hv
          have hw : IntKind.i64.wrap (3 + (V : Int)) = 3 + (V : Int) := IntWalk.i64_in _ ⟨by omega, by omega⟩
          go_wp2_with fail
          refine HT.out.mono ?_
          rintro e2 w2 ⟨_, rfl, rfl, H1⟩
          have H2 : Own w0 w2 (LenP bL l :: blk bN (.cells #[.int .i64 N] 3) :: blk bR (.cells #[.pointer (some ⟨g, 0, none⟩)] 55) :: Inr g rg s n3 out most E :: Tbl t T :: ps) := (H1.front 3 rfl).front 3 rfl |>.front 3 rfl
          have HA := Lib.hid (inagain_any 0 (3 + V) N (by omega) hN (by rw [hM.out]; omega) H2)
          rw [show ((3 + V : Nat) : Int) = 3 + (V : Int) from by omega] at HA
          clear HT H1 H2 H c1 c2 ce
          go_wp2_with fail
          refine HA.out.mono ?_
          rintro e3 w3 ⟨_, rfl, H3⟩
          clear HA
          go_wp2_with fail
          go_roundw
          case rel => exact ⟨_, n3, _, agL_len (by rw [hM.out]; omega), hn3, hst, H3⟩
          case measure => rw [hm0.out, lmeas_own H3]; have := agL_less (N := N) (k := 3 + V) (l := l) (x := 0) (e := E) (by omega) (by rw [hM.out]; exact hlt); rw [hM.out] at this; exact this
        · have hG := hpl2.out.2.2.2.2 (by omega)
          have hvb1 : (v == 16) = false := by simp [hv1]
          have hvb2 : (v == 17) = false := by simp [hv2]
          clear hpl2 hv1 hv2
          have hV := (tk_got (s := s) (n := n2) (k := 7) (by omega) hn2).2
          obtain ⟨V, hv⟩ : ∃ V : Nat, Hid (tkV s n2 ((7 : Nat) : Int) = V) := ⟨(tkV s n2 ((7 : Nat) : Int)).toNat, Lib.hid (by omega)⟩
          have hV2 : V < 128 := tk_small (by omega) hv.out
          have hst := Lib.hid (lst_again (by omega) hn2 hv.out hG)
          have hn3 := hV.1
          clear hV hG
          have HT := Lib.hid (intake_tk 7 (by omega) (H.front 3 rfl) hs hn2)
          obtain ⟨n3, hn3e⟩ : ∃ n3, Hid (tkN s n2 ((7 : Nat) : Int) = n3) := ⟨_, rfl⟩
          obtain ⟨E, hE⟩ : ∃ E, Hid (tkE s n2 ((7 : Nat) : Int) 0 = E) := ⟨_, rfl⟩
          have hE2 : (if tkOk s n2 ((7 : Nat) : Int) then (0 : Int) else if (0 : Int) = 0 then 2 else 0) = E := hE.out
          rw [hv.out, hn3e.out, hE2] at HT
          rw [hn3e.out, hE.out] at hst
          rw [hn3e.out] at hn3
          clear hE2 hE hn3e hv
          have hw : IntKind.i64.wrap (11 + (V : Int)) = 11 + (V : Int) := IntWalk.i64_in _ ⟨by omega, by omega⟩
          go_wp2_with fail
          refine HT.out.mono ?_
          rintro e2 w2 ⟨_, rfl, rfl, H1⟩
          have H2 : Own w0 w2 (LenP bL l :: blk bN (.cells #[.int .i64 N] 3) :: blk bR (.cells #[.pointer (some ⟨g, 0, none⟩)] 55) :: Inr g rg s n3 out most E :: Tbl t T :: ps) := (H1.front 3 rfl).front 3 rfl |>.front 3 rfl
          have HA := Lib.hid (inagain_any 0 (11 + V) N (by omega) hN (by rw [hM.out]; omega) H2)
          rw [show ((11 + V : Nat) : Int) = 11 + (V : Int) from by omega] at HA
          clear HT H1 H2 H c1 c2 ce
          go_wp2_with fail
          refine HA.out.mono ?_
          rintro e3 w3 ⟨_, rfl, H3⟩
          clear HA
          go_wp2_with fail
          go_roundw
          case rel => exact ⟨_, n3, _, agL_len (by rw [hM.out]; omega), hn3, hst, H3⟩
          case measure => rw [hm0.out, lmeas_own H3]; have := agL_less (N := N) (k := 11 + V) (l := l) (x := 0) (e := E) (by omega) (by rw [hM.out]; exact hlt); rw [hM.out] at this; exact this
      subst hv1
      clear hv
      obtain ⟨a, c, h1, h2, HL⟩ := H.lenp
      rw [hM.out] at HL
      have c0 := HL.cells
      by_cases hM0 : M = 0
      · subst hM0
        have hst : Hid (LSt (textBits s) G T N l n2 2) := Lib.hid ⟨fun h => absurd h (by decide), fun _ => hpl2.out.2.1 rfl hM.out⟩
        clear hpl2
        have HH := Lib.hid (infail_any (g := g) (rg := rg) 2 (by decide) (H.front 3 rfl))
        go_wp2_with fail
        refine HH.out.mono ?_
        rintro e2 w2 ⟨_, rfl, H1⟩
        have H2 : Own w0 w2 (LenP bL l :: blk bN (.cells #[.int .i64 N] 3) :: blk bR (.cells #[.pointer (some ⟨g, 0, none⟩)] 55) :: Inr g rg s n2 out most 2 :: Tbl t T :: ps) := (H1.front 3 rfl).front 3 rfl |>.front 3 rfl
        clear HH H1 H HL c0 c1 c2 ce
        go_wp2_with fail
        go_roundw
        case rel => exact ⟨l, n2, 2, by rw [hM.out]; omega, hn2, hst, H2⟩
        case measure => rw [hm0.out, lmeas_own H2, if_neg (by decide)]; omega
      obtain ⟨K, rfl⟩ : ∃ K, M = K + 1 := ⟨M - 1, by omega⟩
      have hG := hpl2.out.2.2.1 rfl (by rw [hM.out]; omega)
      clear hpl2 hM0
      obtain ⟨x, hx⟩ : ∃ x, Hid (l.getD (l.length - 1) 0 = x) := ⟨_, rfl⟩
      rw [hx.out] at hG
      have hV := (tk_got (s := s) (n := n2) (k := 2) (by omega) hn2).2
      obtain ⟨V, hv⟩ : ∃ V : Nat, Hid (tkV s n2 ((2 : Nat) : Int) = V) := ⟨(tkV s n2 ((2 : Nat) : Int)).toNat, Lib.hid (by omega)⟩
      have hV2 : V < 128 := tk_small (by omega) hv.out
      have hst := Lib.hid (lst_again (by omega) hn2 hv.out hG)
      have hn3 := hV.1
      clear hV hG
      have HT0 : ∀ (wz : World) (pz : List Piece), Own w0 wz (Inr g rg s n2 out most 0 :: pz) → _ := fun wz pz h => intake_tk 2 (by omega) h hs hn2
      have HT := Lib.hid HT0
      clear HT0
      obtain ⟨n3, hn3e⟩ : ∃ n3, Hid (tkN s n2 ((2 : Nat) : Int) = n3) := ⟨_, rfl⟩
      obtain ⟨E, hE⟩ : ∃ E, Hid (tkE s n2 ((2 : Nat) : Int) 0 = E) := ⟨_, rfl⟩
      have hE2 : (if tkOk s n2 ((2 : Nat) : Int) then (0 : Int) else if (0 : Int) = 0 then 2 else 0) = E := hE.out
      rw [hv.out, hn3e.out, hE2] at HT
      rw [hn3e.out, hE.out] at hst
      rw [hn3e.out] at hn3
      clear hE2 hE hn3e hv
      have hw : IntKind.i64.wrap (3 + (V : Int)) = 3 + (V : Int) := IntWalk.i64_in _ ⟨by omega, by omega⟩
      have hb1 : ((K : Int) + 1 == 0) = false := by simp; omega
      have hK1 : (K : Int) < (K : Int) + 1 := by omega
      have hwK : IntKind.i64.wrap (K : Int) = K := IntWalk.i64_in _ ⟨by omega, by omega⟩
      have hrow : Hid ((nums l)[K]? = some (.int .i64 x)) := Lib.hid (by
        rw [← hx.out, hM.out]
        unfold nums
        rw [List.getElem?_map, List.getElem?_eq_getElem (by rw [hM.out]; omega)]
        simp [List.getD, List.getElem?_eq_getElem (show K < l.length by rw [hM.out]; omega)])
      obtain ⟨bK, cK, hgK, hcK1, hcK2, -, -, -, -⟩ := (HL.front 1 rfl).at (by unfold nums; rw [List.length_map, hM.out]; omega)
      cases hgK
      clear H
      have hcell : ∀ (w1 : World) (ps : List Piece), Own w0 w1 (blk bL (.cells #[.slice (some ⟨bK, 0, none⟩) (K + 1) c] 31) :: slc 3 1 (.slice (some ⟨bK, 0, none⟩) (K + 1) c) (K + 1) (nums l) :: ps) → w1.cell? ⟨bK, K, none⟩ = some (.int .i64 x) := fun w1 ps h => by
        have h3 := (h.front 1 rfl).rd.cell hrow.out
        simpa using h3
      replace hcell := Lib.hid hcell
      go_upto_region 12 with (fail)
      have HD0 := HL.drew
      clear HL c0 c1 c2 ce
      refine Trk.wp_region_new (fun σ w1 => Own w0 w1 (blk bL (.cells #[.slice (some ⟨bK, 0, none⟩) (K + 1) c] 31) :: slc 3 1 (.slice (some ⟨bK, 0, none⟩) (K + 1) c) (K + 1) (nums l) :: blk bN (.cells #[.int .i64 N] 3) :: blk bR (.cells #[.pointer (some ⟨g, 0, none⟩)] 55) :: (if (σ 8).isSome then Inr g rg s n3 out most E else Inr g rg s n2 out most 0) :: Tbl t T :: ps)) 10 [] [8] (by intro k hk; simp at hk; subst hk; exact ⟨by omega, by simp, fun o ho => by simp at ho; subst ho; rfl⟩) (by kernel_rfl) (by kernel_rfl) HD0 ?_
      simp only [List.take_succ_cons, List.take_zero, List.drop_succ_cons, List.drop_zero]
      repeat
        first
        | (refine Trk.calm_value (v := ?_) (by decide) (by decide) rfl (fun σ w1 hS => ?_) ?_
           rotate_left
           · have c0 := hS.cells; have c3 := (hS.front 3 rfl).cells; have c4 := hcell.out _ _ hS
             first | (go_simp; rfl) | rfl
           simp only [Act.put, List.setIfInBounds_toArray, List.set_cons_zero, List.set_cons_succ])
        | (refine Trk.calm_skip (by decide) rfl ?_
           simp only [Act.put, List.setIfInBounds_toArray, List.set_cons_zero, List.set_cons_succ])
      refine kcalm_call (v := .int .i64 V) (by decide) (by decide) rfl (fun w1 => (by go_simp; first | exact ⟨rfl, rfl⟩ | rfl)) (fun σ w1 hS hn => ?_) ?_
      · rw [hn] at hS
        have hS2 : Own w0 w1 (blk bL (.cells #[.slice (some ⟨bK, 0, none⟩) (K + 1) c] 31) :: slc 3 1 (.slice (some ⟨bK, 0, none⟩) (K + 1) c) (K + 1) (nums l) :: blk bN (.cells #[.int .i64 N] 3) :: blk bR (.cells #[.pointer (some ⟨g, 0, none⟩)] 55) :: Inr g rg s n2 out most 0 :: Tbl t T :: ps) := hS
        refine (HT.out _ _ (hS2.front 4 rfl)).mono ?_
        rintro e5 w5 ⟨_, rfl, rfl, h5⟩
        refine ⟨rfl, ?_⟩
        have h6 := (h5.front 4 rfl).front 4 rfl |>.front 4 rfl |>.front 4 rfl
        simpa [Sig.upd] using h6
      simp only [Act.put, List.setIfInBounds_toArray, List.set_cons_zero, List.set_cons_succ]
      repeat
        first
        | (refine Trk.calm_value (v := ?_) (by decide) (by decide) rfl (fun σ w1 hS => ?_) ?_
           rotate_left
           · have c0 := hS.cells; have c3 := (hS.front 3 rfl).cells; have c4 := hcell.out _ _ hS
             first | (go_simp; rfl) | rfl
           simp only [Act.put, List.setIfInBounds_toArray, List.set_cons_zero, List.set_cons_succ])
        | (refine Trk.calm_skip (by decide) rfl ?_
           simp only [Act.put, List.setIfInBounds_toArray, List.set_cons_zero, List.set_cons_succ])
      refine Trk.calm_nil ?_
      intro σ wd _ hσ HD
      have h8 := hσ 8 (by decide)
      rw [if_pos h8] at HD
      clear hσ h8 HD0 HT hcell
      simp only [putNew, List.foldl_nil]
      have H2 : Own w0 wd (LenP bL l :: blk bN (.cells #[.int .i64 N] 3) :: blk bR (.cells #[.pointer (some ⟨g, 0, none⟩)] 55) :: Inr g rg s n3 out most E :: Tbl t T :: ps) := Own.unlenp HD hM.out.symm
      have HA := Lib.hid (inagain_any x (3 + V) N (by omega) hN (by rw [hM.out]; omega) H2)
      rw [show ((3 + V : Nat) : Int) = 3 + (V : Int) from by omega] at HA
      clear H2 HD
      go_wp2_with fail
      refine HA.out.mono ?_
      rintro e3 w3 ⟨_, rfl, H3⟩
      clear HA
      go_wp2_with fail
      go_roundw
      case rel => exact ⟨_, n3, _, agL_len (by rw [hM.out]; omega), hn3, hst, H3⟩
      case measure => rw [hm0.out, lmeas_own H3]; have := agL_less (N := N) (k := 3 + V) (l := l) (x := x) (e := E) (by omega) (by rw [hM.out]; exact hlt); rw [hM.out] at this; exact this
end Go.Proofs.Ytnebacnmbigaaaa
