/-
  Texts of this claim, one behind the other: As XCalm; A call that changes what there is, in a region that draws its order; inflate; Bits; The document's Reader; inflate, the document's; huff; flate; flate; flate; Bits; Bits; flate; inflate, the document's; inflate, the document's; slices.Repeat; copy into a row of the call's own; slices.Repeat of one int; slices.Grow of nil, slices.Concat; flate.
-/
import Derived.Test.YtnebacnmbigaaaaIe3
import Derived.OwnWalk
import Derived.Laws.ResultCell
import Derived.Deep.OwnRows
import Derived.Laws.CopyOwn
import Derived.Lib.AppendZeros
set_option linter.unusedVariables false
/- As XCalm: of the operations in 'tw', whose values are known, too, S is told when they were done. No program in sight. (Written by tools/trk.py.) -/
namespace Go.Proofs.Ytnebacnmbigaaaa.Trk
open Go.RowKit

def trk (tw : List Nat) (i : Nat) (v : Value) (σ : Sig) : Sig := if i ∈ tw then σ.upd i v else σ
/-- In every world that meets S the operation yields v, and S holds behind it. -/
def Calm1 (P : Program) (S : Sig → World → Prop) (tw : List Nat) (i : Nat) (o : Oper) (a : Act) (v : Value) : Prop :=
  ∀ σ w, S σ w → (i ∈ tw → σ i = none) → ∀ (K : Act → World → Prop) (Q : Exit → Act → World → Prop), (∀ w', S (trk tw i v σ) w' → K (a.put o.dst v) w') → o.wp P a w K Q

def calm (P : Program) (ops : Array Oper) (S : Sig → World → Prop) (nw tw : List Nat) (R : Act → Prop) : Nat → List Oper → Act → Prop
  | _, [], a => R a
  | i, o :: rest, a => (i ∈ nw ∧ New1 P S i o a ∧ calm P ops S nw tw R (i + 1) rest a) ∨
      (i ∉ nw ∧ Region.wanted o (yielded ops a.tmps) = true ∧ ∃ v, Calm1 P S tw i o a v ∧ calm P ops S nw tw R (i + 1) rest (a.put o.dst v)) ∨
      (i ∉ nw ∧ Region.wanted o (yielded ops a.tmps) = false ∧ calm P ops S nw tw R (i + 1) rest (a.put o.dst undef))

section
variable {P : Program} {ops : Array Oper} {S : Sig → World → Prop} {nw tw : List Nat} {R : Act → Prop} {a : Act} {o : Oper} {rest : List Oper} {i : Nat}
theorem calm_nil (h : R a) : calm P ops S nw tw R i [] a := h
theorem calm_step (v : Value) (hi : i ∉ nw) (hw : Region.wanted o (yielded ops a.tmps) = true)
    (h1 : ∀ σ w, S σ w → (i ∈ tw → σ i = none) → ∀ (K : Act → World → Prop) (Q : Exit → Act → World → Prop), (∀ w', S (trk tw i v σ) w' → K (a.put o.dst v) w') → o.wp P a w K Q) (h : calm P ops S nw tw R (i + 1) rest (a.put o.dst v)) : calm P ops S nw tw R i (o :: rest) a := .inr (.inl ⟨hi, hw, v, h1, h⟩)
theorem calm_skip (hi : i ∉ nw) (hw : Region.wanted o (yielded ops a.tmps) = false)
    (h : calm P ops S nw tw R (i + 1) rest (a.put o.dst undef)) : calm P ops S nw tw R i (o :: rest) a := .inr (.inr ⟨hi, hw, h⟩)
theorem calm_new (hi : i ∈ nw)
    (h1 : ∀ σ w, S σ w → ∀ (K : Act → World → Prop) (Q : Exit → Act → World → Prop), (∀ v w', S (σ.upd i v) w' → K (a.put o.dst v) w') → o.wp P a w K Q) (h : calm P ops S nw tw R (i + 1) rest a) : calm P ops S nw tw R i (o :: rest) a := .inl ⟨hi, h1, h⟩
end

section
variable {P : Program} {ops : Array Oper} {S : Sig → World → Prop} {nw tw : List Nat}
theorem calm_frames {R : Act → Prop} : ∀ (l : List Oper) (i : Nat) (a : Act), calm P ops S nw tw R i l a →
    ∃ vs : List Value, vs.length = l.length ∧ R (frames ((dets nw i l).zip vs) a) ∧
      ∀ k o, l[k]? = some o → ∃ v, vs[k]? = some v ∧
        ((i + k ∈ nw ∧ New1 P S (i + k) o (frames (((dets nw i l).zip vs).take k) a)) ∨
         (i + k ∉ nw ∧ Region.wanted o (yielded ops (frames (((dets nw i l).zip vs).take k) a).tmps) = true ∧ Calm1 P S tw (i + k) o (frames (((dets nw i l).zip vs).take k) a) v) ∨
         (i + k ∉ nw ∧ Region.wanted o (yielded ops (frames (((dets nw i l).zip vs).take k) a).tmps) = false ∧ v = undef)) := by
  intro l
  induction l with
  | nil => intro i a h; exact ⟨[], rfl, h, fun k o hk => by simp at hk⟩
  | cons o l ih =>
    intro i a h
    have step : ∀ (v : Value) (a' : Act), a' = a.put (if i ∈ nw then none else o.dst) v → calm P ops S nw tw R (i + 1) l a' →
        ((i ∈ nw ∧ New1 P S i o a) ∨ (i ∉ nw ∧ Region.wanted o (yielded ops a.tmps) = true ∧ Calm1 P S tw i o a v) ∨ (i ∉ nw ∧ Region.wanted o (yielded ops a.tmps) = false ∧ v = undef)) → ∃ vs : List Value, vs.length = (o :: l).length ∧ R (frames ((dets nw i (o :: l)).zip vs) a) ∧
      ∀ k o', (o :: l)[k]? = some o' → ∃ v, vs[k]? = some v ∧
        ((i + k ∈ nw ∧ New1 P S (i + k) o' (frames (((dets nw i (o :: l)).zip vs).take k) a)) ∨
         (i + k ∉ nw ∧ Region.wanted o' (yielded ops (frames (((dets nw i (o :: l)).zip vs).take k) a).tmps) = true ∧ Calm1 P S tw (i + k) o' (frames (((dets nw i (o :: l)).zip vs).take k) a) v) ∨
         (i + k ∉ nw ∧ Region.wanted o' (yielded ops (frames (((dets nw i (o :: l)).zip vs).take k) a).tmps) = false ∧ v = undef)) := by
      intro v a' ha hc h0
      obtain ⟨vs, hl, hR, hk⟩ := ih _ _ hc
      refine ⟨v :: vs, by simp [hl], by rw [ha] at hR; exact hR, fun k o' hk' => ?_⟩
      cases k with
      | zero => simp at hk'; subst hk'; exact ⟨v, rfl, h0⟩
      | succ k =>
        have := hk k o' (by simpa using hk')
        rw [ha, show i + 1 + k = i + (k + 1) by omega] at this
        exact this
    rcases h with ⟨hi, h1, h2⟩ | ⟨hi, hw, v, h1, h2⟩ | ⟨hi, hw, h2⟩
    · exact step undef a (by rw [if_pos hi]; rfl) h2 (.inl ⟨hi, h1⟩)
    · exact step v _ (by rw [if_neg hi]) h2 (.inr (.inl ⟨hi, hw, h1⟩))
    · exact step undef _ (by rw [if_neg hi]) h2 (.inr (.inr ⟨hi, hw, rfl⟩))

theorem Calm1.at {tw : List Nat} {i : Nat} {o : Oper} {a a' : Act} {v : Value} (h : Calm1 P S tw i o a v) (he : execOp a'.eval o = execOp a.eval o) (hs : a.tmps.size = a'.tmps.size) {σ : Sig} {w : World} (hw : S σ w) (hfr : i ∈ tw → σ i = none)
    (K : Act → World → Prop) (Q : Exit → Act → World → Prop) (hK : ∀ w', S (trk tw i v σ) w' → K (a'.put o.dst v) w') : o.wp P a' w K Q := by
  have h1 := h σ w hw hfr (fun a1 w1 => a1 = a.put o.dst v ∧ S (trk tw i v σ) w1) (fun _ _ _ => False) (fun w' hw' => ⟨rfl, hw'⟩)
  unfold Oper.wp at *
  rw [he]
  generalize (execOp a.eval o).run P w = r at *
  cases r with
  | ok n w' =>
    cases n <;> simp only [Oper.upon] at h1 ⊢
    case value u => rw [put_eq hs h1.1]; exact hK _ h1.2
    case skip => rw [put_eq hs h1.1]; exact hK _ h1.2
    case defer d =>
      have := congrArg (fun x => x.defers.length) h1.1
      cases hd : o.dst <;> simp [Act.put, hd] at this
    case enter f args =>
      refine Calls.mono h1 fun e w'' he => ?_
      cases e with
      | returned u =>
        show K (a'.put o.dst u) w''
        rw [put_eq hs he.1]; exact hK _ he.2
      | panicked c => exact he.elim
      | outgrown => obtain ⟨_, _, hh⟩ := he; exact hh.elim
    case row row args => exact Rows.mono h1 fun u w'' he => by rw [put_eq hs he.1]; exact hK _ he.2
  | halt x w' => cases x <;> simp only [Oper.upon] at h1 ⊢
theorem wpAny_new {Q : Exit → Act → World → Prop} {a a0 : Act} {w : World} {l : List Oper} (S : Sig → World → Prop) (n : Nat) (nw tw : List Nat) (pre : List Nat) (htw : ∀ k ∈ tw, k < n ∧ k ∉ nw ∧ k ∉ pre ∧ ∀ o, l[k]? = some o → o.guard = none) (hok : calmOk l.toArray n nw pre = true) (hS : S Sig.no w)
    (h : calm P l.toArray S nw tw (fun a' => ∀ σ w', (∀ k ∈ nw, (σ k).isSome = true) → (∀ k ∈ tw, (σ k).isSome = true) → S σ w' → wpList P l.toArray Q (l.drop n) (putNew l nw σ a') w') 0 (l.take n) a)
    (listed0 : Array Bool) (hs0 : listed0.size = l.length) (hl0 : ∀ k, k < l.length → listed0.getD k true = true → k ∈ pre) (hp0 : ∀ p ∈ pre, listed0.getD p true = true)
    (ha0 : PreRun P l pre a a0) :
    wpAny P .any l.toArray Q (left listed0) listed0 a0 w := by
  have g := good_of hok
  have hnl : n ≤ l.length := by simpa using g.le
  obtain ⟨vs, hvl, hR, hk⟩ := calm_frames _ _ _ h
  have hvn : vs.length = n := by simp [hvl, hnl]
  obtain ⟨D, hD⟩ : ∃ D, (dets nw 0 (l.take n)).zip vs = D := ⟨_, rfl⟩
  rw [hD] at hR hk
  simp only [Nat.zero_add] at hk
  have hDl : D.length = n := by rw [← hD]; simp [dets_length, hvn, hnl]
  have hget : ∀ k, k < n → (dets nw 0 (l.take n))[k]? = (l[k]?).map fun o => if k ∈ nw then none else o.dst := by
    intro k hk
    rw [dets_get]
    simp [hk]
  -- the k-th of D
  have hDk : ∀ (k : Nat) (o : Oper) (v : Value), k < n → k ∉ nw → l[k]? = some o → vs[k]? = some v → D[k]? = some (o.dst, v) := by
    intro k o v hkn hnk ho hv
    rw [← hD, List.getElem?_zip_eq_some]
    refine ⟨?_, hv⟩
    rw [hget k hkn, ho]
    simp [hnk]
  have hDd : ∀ (k : Nat) (t : Tmp) (v : Value), D[k]? = some (some t, v) → k < n ∧ k ∉ nw ∧ ∃ o, l[k]? = some o ∧ o.dst = some t := by
    intro k t v hk
    have hkn : k < n := by rw [← hDl]; exact (List.getElem?_eq_some_iff.1 hk).1
    rw [← hD, List.getElem?_zip_eq_some] at hk
    obtain ⟨h1, _⟩ := hk
    rw [hget k hkn, Option.map_eq_some_iff] at h1
    obtain ⟨o, ho, hd⟩ := h1
    by_cases hnk : k ∈ nw
    · simp [hnk] at hd
    · rw [if_neg hnk] at hd
      exact ⟨hkn, hnk, o, ho, hd⟩
  have huniq : ∀ (j k : Nat) (t : Tmp) (u v : Value), k ≠ j → D[k]? = some (some t, u) → D[j]? ≠ some (some t, v) := by
    intro j k t u v hkj h1 h2
    obtain ⟨hkn, _, ok, hok', hdk⟩ := hDd k _ u h1
    obtain ⟨hjn, _, oj, hoj, hdj⟩ := hDd j _ v h2
    exact (g.pair k j ok oj t hkn hjn hkj (by simpa using hok') (by simpa using hoj) hdk).1 hdj
  -- .. with the new ones' values
  obtain ⟨F, hF⟩ : ∃ F : Sig → Nat → Option (Option Tmp × Value), ∀ σ k, F σ k = if k ∈ nw then (l[k]?).map fun o => (o.dst, (σ k).getD undef) else D[k]? := ⟨_, fun _ _ => rfl⟩
  have hFd : ∀ (σ : Sig) (k : Nat) (t : Tmp) (v : Value), F σ k = some (some t, v) → k < n ∧ ∃ o, l[k]? = some o ∧ o.dst = some t := by
    intro σ k t v hk
    rw [hF] at hk
    by_cases hnk : k ∈ nw
    · rw [if_pos hnk, Option.map_eq_some_iff] at hk
      obtain ⟨o, ho, hd⟩ := hk
      exact ⟨g.newLt k hnk, o, ho, by simp at hd; exact hd.1⟩
    · rw [if_neg hnk] at hk
      obtain ⟨h1, _, h3⟩ := hDd k t v hk
      exact ⟨h1, h3⟩
  have hFu : ∀ (σ : Sig) (j k : Nat) (t : Tmp) (u v : Value), k ≠ j → F σ k = some (some t, u) → F σ j ≠ some (some t, v) := by
    intro σ j k t u v hkj h1 h2
    obtain ⟨hkn, ok, hok', hdk⟩ := hFd σ k _ u h1
    obtain ⟨hjn, oj, hoj, hdj⟩ := hFd σ j _ v h2
    exact (g.pair k j ok oj t hkn hjn hkj (by simpa using hok') (by simpa using hoj) hdk).1 hdj
  have hend : ∀ (E : Nat → Prop) (a' : Act) (σ : Sig), (∀ k, k < n → E k) → Agree (F σ) E a a' → a' = putNew l nw σ (frames D a) := by
    intro E a' σ hall hA
    have hB := agree_frames D huniq a n (by omega)
    rw [List.take_of_length_le (by omega)] at hB
    obtain ⟨k1, k2⟩ := putNew_keeps l σ nw (frames D a)
    refine act_ext ?_ (hA.defers.trans (hB.defers.symm.trans k1.symm))
    apply Array.ext_getElem?
    intro t
    by_cases hts : t < a.tmps.size
    · by_cases hw : ∃ (k : Nat) (v : Value), F σ k = some (some t, v)
      · obtain ⟨k, v, hkv⟩ := hw
        obtain ⟨hkn, o, ho, hd⟩ := hFd σ k _ v hkv
        rw [hA.wrote k t v (hall k hkn) hkv hts]
        have hkv' := hkv
        rw [hF] at hkv
        by_cases hnk : k ∈ nw
        · rw [if_pos hnk, ho] at hkv
          simp at hkv
          rw [putNew_new l σ t k nw _ hnk (by simp [ho, hd]) (fun j hj hdj => ?_) (by rw [hB.size]; exact hts), hkv.2]
          by_cases hjk : j = k
          · exact hjk
          · exfalso
            cases hlj : l[j]? with
            | none => rw [hlj] at hdj; cases hdj
            | some oj =>
              rw [hlj] at hdj
              refine hFu σ j k t v ((σ j).getD undef) (Ne.symm hjk) hkv' ?_
              rw [hF, if_pos hj, hlj]
              simp at hdj
              simp [hdj]
        · rw [if_neg hnk] at hkv
          rw [putNew_old l σ t nw _ fun j hj hdj => ?_, hB.wrote k t v hkn hkv hts]
          cases hlj : l[j]? with
          | none => rw [hlj] at hdj; cases hdj
          | some oj =>
            rw [hlj] at hdj
            refine hFu σ j k t v ((σ j).getD undef) (fun e => hnk (e ▸ hj)) hkv' ?_
            rw [hF, if_pos hj, hlj]
            simp at hdj
            simp [hdj]
      · rw [hA.kept t fun k v _ hkv => hw ⟨k, v, hkv⟩, putNew_old l σ t nw _ fun j hj hdj => ?_, hB.kept t fun k v _ hkv => ?_]
        · obtain ⟨_, hnk, _⟩ := hDd k t v hkv
          exact hw ⟨k, v, by rw [hF, if_neg hnk]; exact hkv⟩
        · cases hlj : l[j]? with
          | none => rw [hlj] at hdj; cases hdj
          | some oj =>
            rw [hlj] at hdj
            refine hw ⟨j, (σ j).getD undef, ?_⟩
            rw [hF, if_pos hj, hlj]
            simp at hdj
            simp [hdj]
    · rw [Array.getElem?_eq_none (show a'.tmps.size ≤ t from by rw [hA.size]; exact Nat.le_of_not_lt hts), Array.getElem?_eq_none (show (putNew l nw σ (frames D a)).tmps.size ≤ t from by rw [k2, hB.size]; exact Nat.le_of_not_lt hts)]
  have main : ∀ (fuel : Nat) (listed : Array Bool) (a' : Act) (w' : World) (σ : Sig), listed.size = l.length → left listed = fuel → (∀ j, n ≤ j → j < l.length → listed.getD j true = false) →
      (∀ k o, k < l.length → listed.getD k true = true → l[k]? = some o → ∀ e ∈ o.after, Region.binds .any e = true → listed.getD e.on false = true) →
      (∀ k ∈ nw, listed.getD k true = true → (σ k).isSome = true) → (∀ k ∈ tw, (listed.getD k true = true → (σ k).isSome = true) ∧ (listed.getD k true = false → σ k = none)) → (∀ p ∈ pre, listed.getD p true = true) →
      Agree (F σ) (fun k => k < n ∧ listed.getD k true = true) a a' → S σ w' → wpAny P .any l.toArray Q fuel listed a' w' := by
    intro fuel
    induction fuel with
    | zero =>
      intro listed a' w' σ hs hl ht hc hσ hτ hP hA hSw
      have hall : ∀ k, k < l.length → listed.getD k true = true := fun k hk => by
        cases hkk : listed.getD k true with
        | true => rfl
        | false => have := left_pos (j := k) (by omega) hkk; omega
      have hn : n = l.length := by
        rcases Nat.lt_or_ge n l.length with h | h
        · have := hall n h; rw [ht n (Nat.le_refl _) h] at this; cases this
        · omega
      refine tail_any g 0 n listed a' w' hs (Nat.le_refl _) (fun k _ hk => hall k hk) ht hl ?_
      rw [hend _ a' σ (fun k hk => ⟨hk, hall k (by omega)⟩) hA]
      exact hR σ w' (fun k hk => hσ k hk (hall k (by have := g.newLt k hk; omega))) (fun k hk => (hτ k hk).1 (hall k (by have := (htw k hk).1; omega))) hSw
    | succ fuel ih =>
      intro listed a' w' σ hs hl ht hc hσ hτ hP hA hSw
      by_cases hpre : ∀ k, k < n → listed.getD k true = true
      · refine tail_any g (fuel + 1) n listed a' w' hs (Nat.le_refl _) (fun k hk _ => hpre k hk) ht hl ?_
        rw [hend _ a' σ (fun k hk => ⟨hk, hpre k hk⟩) hA]
        exact hR σ w' (fun k hk => hσ k hk (hpre k (g.newLt k hk))) (fun k hk => (hτ k hk).1 (hpre k (htw k hk).1)) hSw
      · -- the least that is not listed is ready
        have hex : ∃ k, k < n ∧ listed.getD k true = false := by
          rcases Classical.em (∃ k, k < n ∧ listed.getD k true = false) with h | h
          · exact h
          · exact absurd (fun k hk => by
              cases hkk : listed.getD k true with
              | true => rfl
              | false => exact absurd ⟨k, hk, hkk⟩ h) hpre
        obtain ⟨m, hm, hmin⟩ : ∃ m, (m < n ∧ listed.getD m true = false) ∧ ∀ k, k < m → listed.getD k true = true := by
          obtain ⟨k, hk⟩ := hex
          induction k using Nat.strongRecOn with
          | _ k ihk =>
            rcases Classical.em (∃ j, j < k ∧ listed.getD j true = false) with ⟨j, hj, hjl⟩ | h
            · exact ihk j hj ⟨by omega, hjl⟩
            · refine ⟨k, hk, fun j hj => ?_⟩
              cases hjj : listed.getD j true with
              | true => rfl
              | false => exact absurd ⟨j, hj, hjj⟩ h
        obtain ⟨om, hom⟩ : ∃ o, l[m]? = some o := ⟨_, List.getElem?_eq_getElem (by omega)⟩
        have hready : m ∈ Region.ready .any l.toArray listed := mem_ready.2 ⟨by simp; omega, hm.2, om, by simpa using hom, fun e he hb => by
          have := g.low m om (by simpa using hom) e he hb
          rw [← getD_tf (by omega)]
          exact hmin _ this⟩
        refine ⟨fun h => (by rw [h] at hready; cases hready), fun i hi => ?_⟩
        obtain ⟨hi1, hi2, o, ho, hi3⟩ := mem_ready.1 hi
        have hi1 : i < l.length := by simpa using hi1
        have hol : l[i]? = some o := by simpa using ho
        have hin : i < n := by
          rcases Nat.lt_trichotomy i n with h | h | h
          · exact h
          · -- all that it waits for, and so all, are listed
            subst h
            have hall : ∀ d k, i - k = d → k < i → listed.getD k true = true := by
              intro d
              induction d using Nat.strongRecOn with
              | _ d ihd =>
                intro k hd hk
                by_cases hpk : k ∈ pre
                · exact hP k hpk
                obtain ⟨j, hkj, hji, oj, hoj, hwj⟩ := g.sink (by simpa using hi1) k hk hpk
                obtain ⟨e, he, hb, heq⟩ := waits_spec hwj
                rw [getD_tf (by omega), ← heq]
                rcases Nat.lt_or_ge j i with hlt | hge
                · have hjl := ihd (i - j) (by omega) j rfl hlt
                  exact hc j oj (by omega) hjl (by simpa using hoj) e he hb
                · have : j = i := by omega
                  subst this
                  rw [ho] at hoj
                  cases hoj
                  exact hi3 e he hb
            have := hall _ m rfl hm.1
            rw [hm.2] at this
            cases this
          · obtain ⟨e, he, hb, heq⟩ := waits_spec (g.chain i o h (by simpa using hol))
            have := hi3 e he hb
            rw [heq, ← getD_tf (by omega), ht (i - 1) (by omega) (by omega)] at this
            cases this
        obtain ⟨v, hv, hcase⟩ := hk i o (by simp [hin, hol])
        have hAi := agree_frames D huniq a i (by omega)
        have hsame := same_op (ops := l.toArray) (o := o) (a := frames (D.take i) a) (a' := a') (g.noSel i o ho) (by
          intro t htl
          by_cases hw : ∃ (k : Nat) (u : Value), F σ k = some (some t, u)
          · obtain ⟨k, u, hku⟩ := hw
            obtain ⟨hkn, ok, hok', hdk⟩ := hFd σ k _ u hku
            have hnk : k ∉ nw := fun hnk => g.newApart k hnk ok t (by simpa using hok') hdk i o hin ho htl
            have hDu : D[k]? = some (some t, u) := by rw [hF, if_neg hnk] at hku; exact hku
            by_cases hts : t < a.tmps.size
            · have hki : k ≠ i := fun e => by
                subst e
                rw [hol] at hok'
                cases hok'
                exact g.own k o t hkn ho hdk htl
              rcases (g.pair k i ok o t hkn hin hki (by simpa using hok') ho hdk).2 with h1 | ⟨hlt, hwt⟩ | ⟨hlt, hwt⟩
              · exact absurd htl h1
              · obtain ⟨e, he, hb, heq⟩ := waits_spec hwt
                have hkl : listed.getD k true = true := by
                  rw [getD_tf (by omega), ← heq]; exact hi3 e he hb
                rw [hA.wrote k t u ⟨hkn, hkl⟩ hku hts, hAi.wrote k t u hlt hDu hts]
              · obtain ⟨e, he, hb, heq⟩ := waits_spec hwt
                have hkl : ¬ listed.getD k true = true := fun hkl => by
                  have := hc k ok (by omega) hkl hok' e he hb
                  rw [heq, ← getD_tf (by omega), hi2] at this
                  cases this
                rw [hA.kept t fun k' u' hk' hD' => ?_, hAi.kept t fun k' u' hk' hD' => ?_]
                · by_cases hkk : k' = k
                  · subst hkk; omega
                  · exact huniq k k' t u' u hkk hD' hDu
                · by_cases hkk : k' = k
                  · subst hkk; exact hkl hk'.2
                  · exact hFu σ k k' t u' u hkk hD' hku
            · rw [Array.getElem?_eq_none (show a'.tmps.size ≤ t from by rw [hA.size]; exact Nat.le_of_not_lt hts), Array.getElem?_eq_none (show (frames (D.take i) a).tmps.size ≤ t from by rw [hAi.size]; exact Nat.le_of_not_lt hts)]
          · rw [hA.kept t fun k v _ hkv => hw ⟨k, v, hkv⟩, hAi.kept t fun k v _ hkv => ?_]
            obtain ⟨_, hnk, _⟩ := hDd k t v hkv
            exact hw ⟨k, v, by rw [hF, if_neg hnk]; exact hkv⟩)
        have hset : ∀ k b, (listed.setIfInBounds i true).getD k b = if k = i then true else listed.getD k b := by
          intro k b
          by_cases hki : k = i
          · subst hki; simp [hs, hi1]
          · have : i ≠ k := Ne.symm hki
            simp [Array.getElem?_setIfInBounds_ne this, hki]
        have next : ∀ (σ' : Sig) (u : Value) w'', F σ' i = some (o.dst, u) → Agree (F σ') (fun k => k < n ∧ listed.getD k true = true) a a' → (∀ k ∈ nw, (listed.setIfInBounds i true).getD k true = true → (σ' k).isSome = true) → (∀ k ∈ tw, ((listed.setIfInBounds i true).getD k true = true → (σ' k).isSome = true) ∧ ((listed.setIfInBounds i true).getD k true = false → σ' k = none)) → S σ' w'' →
            wpAny P .any l.toArray Q fuel (listed.setIfInBounds i true) (a'.put o.dst u) w'' := by
          intro σ' u w'' hFi hA' hσ' hτ' hSw''
          refine ih _ _ w'' σ' (by simpa using hs) (by have := left_set (j := i) (by omega) hi2; omega) ?_ ?_ hσ' hτ' (fun p hp => by rw [hset]; split <;> first | rfl | exact hP p hp) ?_ hSw''
          · intro j hj hjl
            rw [hset, if_neg (by omega)]
            exact ht j hj hjl
          · intro k ok hkl hkt hok' e he hb
            rw [hset]
            split
            · rfl
            · rw [hset] at hkt
              by_cases hki : k = i
              · subst hki
                rw [hol] at hok'
                cases hok'
                exact hi3 e he hb
              · rw [if_neg hki] at hkt
                exact hc k ok hkl hkt hok' e he hb
          · have := hA'.put (j := i) hFi (fun k t u' hki hD' e => hFu σ' i k t u' u hki hD' (by rw [hFi, e]))
            refine ⟨this.defers, this.size, fun k t u hk => this.wrote k t u ?_, fun t ht => this.kept t fun k u hk => ht k u ?_⟩
            · obtain ⟨h1, h2⟩ := hk
              rw [hset] at h2
              by_cases hki : k = i
              · exact .inr hki
              · rw [if_neg hki] at h2; exact .inl ⟨h1, h2⟩
            · rw [hset]
              rcases hk with ⟨h1, h2⟩ | rfl
              · exact ⟨h1, by split <;> first | rfl | exact h2⟩
              · exact ⟨hin, by simp⟩
        have hσset : i ∉ nw → ∀ k ∈ nw, (listed.setIfInBounds i true).getD k true = true → (σ k).isSome = true := fun hni k hk hkl => by
          rw [hset, if_neg (fun (e : k = i) => hni (e ▸ hk))] at hkl
          exact hσ k hk hkl
        have hτset : i ∉ tw → ∀ k ∈ tw, ((listed.setIfInBounds i true).getD k true = true → (σ k).isSome = true) ∧ ((listed.setIfInBounds i true).getD k true = false → σ k = none) := fun hni k hk => by
          rw [hset, if_neg (fun (e : k = i) => hni (e ▸ hk))]
          exact hτ k hk
        unfold wpOp
        simp only [ho]
        rcases hcase with ⟨hni, hn1⟩ | ⟨hni, hw1, hc1⟩ | ⟨hni, hw1, rfl⟩
        · have hg := g.newPlain i hni o ho
          rw [show Region.wanted o (yielded l.toArray a'.tmps) = true by simp [Region.wanted, hg]]
          refine .inl (hn1.at hsame.1 (by rw [hAi.size, hA.size]) hSw _ _ fun u w'' hSu => ?_)
          refine next (σ.upd i u) u w'' (by rw [hF, if_pos hni, hol]; simp [Sig.upd]) ?_ ?_ ?_ hSu
          · have hne : ∀ k, (k < n ∧ listed.getD k true = true) → F (σ.upd i u) k = F σ k := fun k hk => by
              have hki : k ≠ i := fun e => by subst e; rw [hi2] at hk; cases hk.2
              rw [hF, hF]
              simp [Sig.upd, hki]
            exact ⟨hA.defers, hA.size, fun k t u' hk hD' => hA.wrote k t u' hk (by rw [← hne k hk]; exact hD'), fun t ht => hA.kept t fun k u' hk => by rw [← hne k hk]; exact ht k u' hk⟩
          · intro k hk hkl
            by_cases hki : k = i
            · simp [Sig.upd, hki]
            · rw [hset, if_neg hki] at hkl
              simpa [Sig.upd, hki] using hσ k hk hkl
          · intro k hk
            have hki : k ≠ i := fun e => (htw k hk).2.1 (e ▸ hni)
            rw [hset, if_neg hki]
            simpa [Sig.upd, hki] using hτ k hk
        · rw [hsame.2, hw1]
          by_cases hit : i ∈ tw
          · refine .inl (hc1.at hsame.1 (by rw [hAi.size, hA.size]) hSw (fun hit => (hτ i hit).2 hi2) _ _ fun w'' hSu => next (σ.upd i v) v w'' (by rw [hF, if_neg hni]; exact hDk i o v hin hni hol hv) ?_ ?_ ?_ (by rw [trk, if_pos hit] at hSu; exact hSu))
            · have hne : ∀ k, (k < n ∧ listed.getD k true = true) → F (σ.upd i v) k = F σ k := fun k hk => by
                have hki : k ≠ i := fun e => by subst e; rw [hi2] at hk; cases hk.2
                rw [hF, hF]
                simp [Sig.upd, hki]
              exact ⟨hA.defers, hA.size, fun k t u' hk hD' => hA.wrote k t u' hk (by rw [← hne k hk]; exact hD'), fun t ht => hA.kept t fun k u' hk => by rw [← hne k hk]; exact ht k u' hk⟩
            · intro k hk hkl
              by_cases hki : k = i
              · simp [Sig.upd, hki]
              · rw [hset, if_neg hki] at hkl
                simpa [Sig.upd, hki] using hσ k hk hkl
            · intro k hk
              rw [hset]
              by_cases hki : k = i
              · simp [Sig.upd, hki]
              · rw [if_neg hki]
                simpa [Sig.upd, hki] using hτ k hk
          · exact .inl (hc1.at hsame.1 (by rw [hAi.size, hA.size]) hSw (fun hit => (hτ i hit).2 hi2) _ _ fun w'' hSu => next σ v w'' (by rw [hF, if_neg hni]; exact hDk i o v hin hni hol hv) hA (hσset hni) (hτset hit) (by rw [trk, if_neg hit] at hSu; exact hSu))
        · rw [hsame.2, hw1]
          have hit : i ∉ tw := fun hit => by
            have := (htw i hit).2.2.2 o hol
            simp [Region.wanted, this] at hw1
          exact next σ undef w' (by rw [hF, if_neg hni]; exact hDk i o undef hin hni hol hv) hA (hσset hni) (hτset hit) hSw
  refine main _ listed0 a0 w Sig.no hs0 rfl (fun j hnj hj => ?_) (fun k o hk hkt ho e he hb => ?_) (fun k hk hkt => ?_) (fun k hk => ?_) hp0 ?_ hS
  · cases hjj : listed0.getD j true with
    | false => rfl
    | true =>
      have := (g.preAny j (hl0 j hj hjj)).1
      omega
  · obtain ⟨_, _, o', ho', _, haf⟩ := g.preAny k (hl0 k hk hkt)
    obtain rfl : o' = o := by simpa [ho] using ho'.symm
    have := g.low k o' (by simpa using ho) e he hb
    rw [← getD_tf (by omega)]
    exact hp0 _ (haf e he hb)
  · exact absurd hk (g.preAny k (hl0 k (by have := g.newLt k hk; omega) hkt)).2.1
  · exact ⟨fun hkt => absurd (hl0 k (by have := (htw k hk).1; omega) hkt) (htw k hk).2.2.1, fun _ => rfl⟩
  · have step : ∀ (r done : List Nat) (a1 : Act), preOk l.toArray n nw done r = true → PreRun P l r a1 a0 → Agree (F Sig.no) (fun k => k ∈ done) a a1 →
        (∀ k ∈ done, ∀ o, l[k]? = some o → ∀ e ∈ o.after, Region.binds .any e = true → e.on ∈ done) → Agree (F Sig.no) (fun k => k ∈ r ∨ k ∈ done) a a0 := by
      intro r
      induction r with
      | nil =>
        intro done a1 _ hr hA _
        obtain rfl : a0 = a1 := hr
        simpa using hA
      | cons p r ih =>
        intro done a1 hpo hr hA hcl
        obtain ⟨hpn, hpw, hpd, ⟨o, hop, hgd, haf⟩, hpo'⟩ := preOk_cons hpo
        have hop : l[p]? = some o := by simpa using hop
        obtain ⟨o', v, ho', hrun, hr'⟩ := hr
        obtain rfl : o' = o := by simpa [hop] using ho'.symm
        obtain ⟨u, hu, hcase⟩ := hk p o' (by simp [hpn, hop])
        have hAi := agree_frames D huniq a p (by omega)
        have hsame := same_op (ops := l.toArray) (o := o') (a := a1) (a' := frames (D.take p) a) (g.noSel p o' (by simpa using hop)) (by
          intro t htl
          by_cases hts : t < a.tmps.size
          · by_cases hw : ∃ (k : Nat) (u : Value), F Sig.no k = some (some t, u)
            · obtain ⟨k, x, hkx⟩ := hw
              obtain ⟨hkn, ok, hok', hdk⟩ := hFd Sig.no k _ x hkx
              have hnk : k ∉ nw := fun hnk => g.newApart k hnk ok t (by simpa using hok') hdk p o' hpn (by simpa using hop) htl
              have hDu : D[k]? = some (some t, x) := by rw [hF, if_neg hnk] at hkx; exact hkx
              have hkp : k ≠ p := fun e => by
                subst e
                rw [hop] at hok'
                cases hok'
                exact g.own k o' t hkn (by simpa using hop) hdk htl
              rcases (g.pair k p ok o' t hkn hpn hkp (by simpa using hok') (by simpa using hop) hdk).2 with h1 | ⟨hlt, hwt⟩ | ⟨hlt, hwt⟩
              · exact absurd htl h1
              · obtain ⟨e, he, hb, heq⟩ := waits_spec hwt
                have hkd : k ∈ done := heq ▸ haf e he hb
                rw [hA.wrote k t x hkd hkx hts, hAi.wrote k t x hlt hDu hts]
              · obtain ⟨e, he, hb, heq⟩ := waits_spec hwt
                have hkd : k ∉ done := fun hkd => hpd (heq ▸ hcl k hkd ok hok' e he hb)
                rw [hA.kept t fun k' u' hk' hD' => ?_, hAi.kept t fun k' u' hk' hD' => ?_]
                · by_cases hkk : k' = k
                  · subst hkk; omega
                  · exact huniq k k' t u' x hkk hD' hDu
                · by_cases hkk : k' = k
                  · subst hkk; exact hkd hk'
                  · exact hFu Sig.no k k' t u' x hkk hD' hkx
            · rw [hA.kept t fun k v _ hkv => hw ⟨k, v, hkv⟩, hAi.kept t fun k v _ hkv => ?_]
              obtain ⟨_, hnk, _⟩ := hDd k t v hkv
              exact hw ⟨k, v, by rw [hF, if_neg hnk]; exact hkv⟩
          · rw [Array.getElem?_eq_none (show (frames (D.take p) a).tmps.size ≤ t from by rw [hAi.size]; exact Nat.le_of_not_lt hts), Array.getElem?_eq_none (show a1.tmps.size ≤ t from by rw [hA.size]; exact Nat.le_of_not_lt hts)])
        have hput : a1.put o'.dst v = a1.put o'.dst u := by
          rcases hcase with ⟨hni, _⟩ | ⟨_, _, hc1⟩ | ⟨_, hw1, _⟩
          · exact absurd hni hpw
          · have h1 := hc1.at (a' := a1) hsame.1.symm (by rw [hAi.size, hA.size]) hS (fun _ => rfl) (fun a2 _ => a2 = a1.put o'.dst u) (fun _ _ _ => False) (fun _ _ => rfl)
            unfold Oper.wp at h1
            rw [hrun w] at h1
            simpa only [Oper.upon] using h1
          · exfalso
            simp [Region.wanted, hgd] at hw1
        rw [hput] at hr'
        have hFp : F Sig.no p = some (o'.dst, u) := by rw [hF, if_neg hpw]; exact hDk p o' u hpn hpw hop hu
        have hA' := hA.put (j := p) hFp (fun k t u' hki hD' e => hFu Sig.no p k t u' u hki hD' (by rw [hFp, e]))
        have hA2 : Agree (F Sig.no) (fun k => k ∈ p :: done) a (a1.put o'.dst u) :=
          ⟨hA'.defers, hA'.size, fun k t x hk => hA'.wrote k t x (by
            rcases List.mem_cons.1 hk with h | h
            · exact .inr h
            · exact .inl h), fun t ht => hA'.kept t fun k x hk => ht k x (by
            rcases hk with h | h
            · exact List.mem_cons_of_mem _ h
            · exact h ▸ List.mem_cons_self ..)⟩
        have := ih (p :: done) _ hpo' hr' hA2 (fun k hk o ho e he hb => by
          rcases List.mem_cons.1 hk with rfl | hk
          · rw [hop] at ho
            cases ho
            exact List.mem_cons_of_mem _ (haf e he hb)
          · exact List.mem_cons_of_mem _ (hcl k hk o ho e he hb))
        refine ⟨this.defers, this.size, fun k t x hk => this.wrote k t x ?_, fun t ht => this.kept t fun k x hk => ht k x ?_⟩
        · rcases hk with hk | hk
          · rcases List.mem_cons.1 hk with rfl | hk
            · exact .inr (List.mem_cons_self ..)
            · exact .inl hk
          · exact .inr (List.mem_cons_of_mem _ hk)
        · rcases hk with hk | hk
          · exact .inl (List.mem_cons_of_mem _ hk)
          · rcases List.mem_cons.1 hk with rfl | hk
            · exact .inl (List.mem_cons_self ..)
            · exact .inr hk
    have h0 : Agree (F Sig.no) (fun k => k ∈ ([] : List Nat)) a a := ⟨rfl, rfl, fun k t v hk _ _ => (by cases hk), fun t _ => rfl⟩
    have := step pre [] a g.preOrd ha0 h0 (fun k hk => by cases hk)
    refine ⟨this.defers, this.size, fun k t x hk => this.wrote k t x (.inl (hl0 k (by omega) hk.2)), fun t ht => this.kept t fun k x hk => ht k x ?_⟩
    rcases hk with hk | hk
    · exact ⟨(g.preAny k hk).1, hp0 k hk⟩
    · cases hk

theorem wp_region_new {id : Nat} {Q : Exit → Act → World → Prop} {a : Act} {w : World} {l : List Oper} (S : Sig → World → Prop) (n : Nat) (nw tw : List Nat) (htw : ∀ k ∈ tw, k < n ∧ k ∉ nw ∧ ∀ o, l[k]? = some o → o.guard = none) (hm : P.follows .mixedOrders = true) (hok : calmOk l.toArray n nw = true) (hS : S Sig.no w.drew)
    (h : calm P l.toArray S nw tw (fun a' => ∀ σ w', (∀ k ∈ nw, (σ k).isSome = true) → (∀ k ∈ tw, (σ k).isSome = true) → S σ w' → wpList P l.toArray Q (l.drop n) (putNew l nw σ a') w') 0 (l.take n) a) : (Code.region id l.toArray true).wp P Q a w := by
  refine wp_region_any hm ?_
  have hl := left_none l.toArray.size
  have := wpAny_new (a0 := a) S n nw tw [] (fun k hk => ⟨(htw k hk).1, (htw k hk).2.1, by simp, (htw k hk).2.2⟩) hok hS h (Array.replicate l.toArray.size false) (by simp) (fun k hk hkt => by simp [hk] at hkt) (fun p hp => by cases hp) rfl
  rw [hl] at this
  exact this


theorem calm_value {R : Act → Prop} {a : Act} {o : Oper} {rest : List Oper} {i : Nat} {v : Value} (hi : i ∉ nw) (ht : i ∉ tw) (hw : Region.wanted o (yielded ops a.tmps) = true) (h1 : ∀ σ w, S σ w → (execOp a.eval o).run P w = .ok (.value v) w) (h : calm P ops S nw tw R (i + 1) rest (a.put o.dst v)) : calm P ops S nw tw R i (o :: rest) a :=
  calm_step v hi hw (fun σ w hS _ K Q hK => by unfold Oper.wp; rw [h1 σ w hS]; exact hK w (by rw [trk, if_neg ht]; exact hS)) h
theorem calm_track {R : Act → Prop} {a : Act} {o : Oper} {rest : List Oper} {i : Nat} {v : Value} (hi : i ∉ nw) (ht : i ∈ tw) (hw : Region.wanted o (yielded ops a.tmps) = true) (h1 : ∀ σ w, S σ w → σ i = none → ∃ w', (execOp a.eval o).run P w = .ok (.value v) w' ∧ S (σ.upd i v) w') (h : calm P ops S nw tw R (i + 1) rest (a.put o.dst v)) : calm P ops S nw tw R i (o :: rest) a :=
  calm_step v hi hw (fun σ w hS hf K Q hK => by
    obtain ⟨w', hr, hs⟩ := h1 σ w hS (hf ht)
    unfold Oper.wp
    rw [hr]
    exact hK w' (by rw [trk, if_pos ht]; exact hs)) h
end
end Go.Proofs.Ytnebacnmbigaaaa.Trk
/- A call that changes what there is, in a region that draws its order. -/
namespace Go.Proofs.Ytnebacnmbigaaaa

section
variable {P : Program} {ops : Array Oper} {S : Sig → World → Prop} {nw tw : List Nat} {R : Act → Prop} {a : Act} {o : Oper} {rest : List Oper} {i : Nat}
/-- A call whose value is known, of which S is told. -/
theorem kcalm_call {v : Value} {f : FuncId} {args : Array Value} (hi : i ∉ nw) (hit : i ∈ tw) (hw : Region.wanted o (yielded ops a.tmps) = true) (hr : ∀ w, (execOp a.eval o).run P w = .ok (.enter f args) w)
    (hc : ∀ σ w, S σ w → σ i = none → Calls P f args w fun e w' => e = .returned v ∧ S (σ.upd i v) w') (h : Trk.calm P ops S nw tw R (i + 1) rest (a.put o.dst v)) : Trk.calm P ops S nw tw R i (o :: rest) a :=
  Trk.calm_step v hi hw (fun σ w hS hf K Q hK => by
    unfold Oper.wp
    rw [hr w]
    refine (hc σ w hS (hf hit)).mono ?_
    rintro e w' ⟨rfl, hS'⟩
    exact hK w' (by rw [Trk.trk, if_pos hit]; exact hS')) h
end
section
variable {P : Program} {ops : Array Oper} {S : Sig → World → Prop} {nw : List Nat} {R : Act → Prop} {a : Act} {o : Oper} {rest : List Oper} {i : Nat}
theorem ncalm_call {f : FuncId} {args : Array Value} (hi : i ∈ nw) (hr : ∀ w, (execOp a.eval o).run P w = .ok (.enter f args) w)
    (hc : ∀ σ w, S σ w → Calls P f args w fun e w' => ∃ v, e = .returned v ∧ S (σ.upd i v) w') (h : calm P ops S nw R (i + 1) rest a) : calm P ops S nw R i (o :: rest) a :=
  calm_new hi (fun σ w hS K Q hK => by
    unfold Oper.wp
    rw [hr w]
    refine (hc σ w hS).mono ?_
    rintro e w' ⟨v, rfl, hS'⟩
    exact hK v w' hS') h
end
end Go.Proofs.Ytnebacnmbigaaaa
/- inflate: the walks of length, dist. -/
namespace Go.Proofs.Ytnebacnmbigaaaa
open Go.RowKit

def lenG (bs : List Bool) (c : Int) (n : Nat) : Got Int := if 285 < c then .bad 2 else (takeG bs (lenT0 c.toNat).2 n).bind fun v m => .ok ((lenT0 c.toNat).1 + v) m
def distG (bs : List Bool) (k : Int) (n : Nat) : Got Int := if 29 < k then .bad 2 else (takeG bs (distT0 k.toNat).2 n).bind fun v m => .ok ((distT0 k.toNat).1 + v) m
theorem takeG_zero {bs : List Bool} {n : Nat} (h : n ≤ bs.length) : takeG bs 0 n = .ok 0 n := by
  unfold takeG
  rw [if_pos (by omega)]
  simp [valOf]
theorem lenT0_small (i : Nat) (h : i < 8) : lenT0 (257 + i) = (3 + i, 0) := by
  have : ∀ i : Fin 8, lenT0 (257 + i.val) = (3 + i.val, 0) := by decide
  exact this ⟨i, h⟩
theorem lenT0_mid (i : Nat) (h : i < 20) : lenT0 (265 + i) = (3 + (4 + i % 4) * 2 ^ (i / 4 + 1), i / 4 + 1) := by
  have : ∀ i : Fin 20, lenT0 (265 + i.val) = (3 + (4 + i.val % 4) * 2 ^ (i.val / 4 + 1), i.val / 4 + 1) := by decide
  exact this ⟨i, h⟩
theorem lenT0_last : lenT0 285 = (258, 0) := rfl
theorem tk_got {s : ByteArray} {n k : Nat} (hk : k ≤ 62) (hn : n ≤ 8 * s.size) : GotR (takeG (textBits s) k n) (tkV s n k) (tkN s n k) (if tkOk s n k then 0 else 2) ∧ tkN s n k ≤ 8 * s.size ∧ 0 ≤ tkV s n k := by
  refine ⟨?_, tkN_le hn, ?_⟩
  · unfold takeG
    rw [textBits_length]
    by_cases h : tkOk s n k
    · have h' := h
      unfold tkOk at h'
      rw [if_pos (by omega), if_pos h]
      unfold tkV tkN
      rw [if_pos h, if_pos h]
      exact ⟨by simp, by simp, rfl⟩
    · have h' := h
      unfold tkOk at h'
      rw [if_neg (by omega), if_neg h]
      rfl
  · unfold tkV
    split
    · exact (valOf_bd _).1
    · omega
theorem tkV_lt {s : ByteArray} {n k : Nat} (hk : k ≤ 16) : tkV s n k < 65536 := by
  unfold tkV
  split
  · have h := valOf_bd (((textBits s).drop n).take (k : Int).toNat)
    refine Int.lt_of_lt_of_le h.2 ?_
    have hl : (((textBits s).drop n).take (k : Int).toNat).length ≤ 16 := by simp; omega
    exact pow2_le hl
  · omega

theorem tdiv_nat {a : Int} {b : Int} (ha : 0 ≤ a) : a.tdiv b = a / b := Int.tdiv_eq_ediv_of_nonneg ha
/-- What is taken behind something that was told: the first fault stands. -/
def tkE (s : ByteArray) (n : Nat) (k : Int) (e : Int) : Int := if tkOk s n k then e else if e = 0 then 2 else e

set_option maxRecDepth 100000 in
set_option maxHeartbeats 1600000 in
theorem inlength_mid {w0 w : World} {ps : List Piece} {g rg n : Nat} {s : ByteArray} {out : List Int} {most e : Int} (i : Nat) (hi : i < 20) (hs : s.size ≤ 1000000) (hn : n ≤ 8 * s.size) (H : Own w0 w (Inr g rg s n out most e :: ps)) :
    Calls Try.prog 54 #[.pointer (some ⟨g, 0, none⟩), .int .i64 ((265 + i : Nat) : Int)] w (Ret fun r w' => r = .int .i64 ((lenT0 (265 + i)).1 + tkV s n ((lenT0 (265 + i)).2 : Nat)) ∧ Own w0 w' (Inr g rg s (tkN s n ((lenT0 (265 + i)).2 : Nat)) out most (tkE s n ((lenT0 (265 + i)).2 : Nat) e) :: ps)) := by
  rw [lenT0_mid i hi]
  obtain ⟨j, hj⟩ : ∃ j, Hid (i / 4 + 1 = j) := ⟨_, rfl⟩
  have hj1 : 1 ≤ j ∧ j ≤ 5 := by have := hj.out; omega
  simp only
  rw [hj.out]
  have hV := (tk_got (s := s) (n := n) (k := j) (by omega) hn).2.2
  have hV2 := tkV_lt (s := s) (n := n) (k := j) (by omega)
  have HT : ∀ wz, Own w0 wz (Inr g rg s n out most e :: ps) → _ := fun wz h => intake_tk j (by omega) h hs hn
  replace HT := Lib.hid HT
  obtain ⟨V, hv⟩ : ∃ V, Hid (tkV s n j = V) := ⟨_, rfl⟩
  obtain ⟨M, hm⟩ : ∃ M, Hid (tkN s n j = M) := ⟨_, rfl⟩
  obtain ⟨E, hE⟩ : ∃ E, Hid (tkE s n j e = E) := ⟨_, rfl⟩
  have hE2 : (if tkOk s n j then e else if e = 0 then 2 else e) = E := hE.out
  rw [hv.out, hm.out, hE2] at HT
  rw [hv.out] at hV hV2
  rw [hv.out, hm.out, hE.out]
  clear hE2
  obtain ⟨q, hq⟩ : ∃ q : Nat, Hid (i % 4 = q) := ⟨_, rfl⟩
  have hq4 : q ≤ 3 := by have := hq.out; omega
  rw [hq.out]
  obtain ⟨c, hc⟩ : ∃ c : Nat, Hid (265 + i = c) := ⟨_, rfl⟩
  rw [hc.out]
  have hc1 : 265 ≤ c ∧ c ≤ 284 := by have := hc.out; omega
  obtain ⟨hc1, hc2⟩ := hc1
  have hlt : ¬ (c : Int) < 265 := by omega
  have heq : ((c : Int) == 285) = false := by simp; omega
  have hgt : ¬ 285 < (c : Int) := by omega
  have d1 : ((c : Int) - 261) / 4 = (j : Int) := by have := hc.out; have := hj.out; omega
  have d2 : ((c : Int) - 265).tmod 4 = (q : Int) := by have := hc.out; have := hq.out; rw [Int.tmod_eq_emod_of_nonneg (by omega)]; omega
  have d3 : ((c : Int) - 265) % 4 = (q : Int) := by have := hc.out; have := hq.out; omega
  obtain ⟨b, hb⟩ : ∃ b : Nat, Hid ((4 + q) * 2 ^ j = b) := ⟨_, rfl⟩
  have hb1 : b ≤ 224 := by
    rw [← hb.out]
    calc (4 + q) * 2 ^ j ≤ 7 * 2 ^ 5 := Nat.mul_le_mul (by omega) (Nat.pow_le_pow_right (by omega) hj1.2)
      _ = 224 := rfl
  rw [hb.out]
  have d4 : (4 + (q : Int)) * 2 ^ j = (b : Int) := by rw [← hb.out, Int.natCast_mul, Int.natCast_pow]; rfl
  have d5 : IntKind.i64.wrap (b : Int) = (b : Int) := IntWalk.i64_in _ ⟨by omega, by omega⟩
  have d6 : IntKind.i64.wrap (4 + (q : Int)) = 4 + (q : Int) := IntWalk.i64_in _ ⟨by omega, by omega⟩
  have d7 : IntKind.i64.wrap (3 + (b : Int)) = 3 + (b : Int) := IntWalk.i64_in _ ⟨by omega, by omega⟩
  have d8 : IntKind.i64.wrap ((c : Int) - 261) = (c : Int) - 261 := IntWalk.i64_in _ ⟨by omega, by omega⟩
  have d9 : IntKind.i64.wrap ((c : Int) - 265) = (c : Int) - 265 := IntWalk.i64_in _ ⟨by omega, by omega⟩
  have d10 : IntKind.i64.wrap (q : Int) = (q : Int) := IntWalk.i64_in _ ⟨by omega, by omega⟩
  have d11 : (j : Int) < 64 := by omega
  have d12 : ¬ (j : Int) < 0 := by omega
  have d13 : IntKind.i64.wrap (3 + (b : Int) + V) = 3 + (b : Int) + V := IntWalk.i64_in _ ⟨by omega, by omega⟩
  clear hj1
  go_enter Try.func54, Try.ntmps54
  go_upto_region 9 with (fail)
  refine Trk.wp_region_new (fun σ w1 => Own w0 w1 ((if (σ 9).isSome then Inr g rg s M out most E else Inr g rg s n out most e) :: ps)) 10 [] [9] (by intro k hk; simp at hk; subst hk; exact ⟨by omega, by simp, fun o ho => by simp at ho; subst ho; rfl⟩) (by kernel_rfl) (by kernel_rfl) H.drew ?_
  simp only [List.take_succ_cons, List.take_zero, List.drop_succ_cons, List.drop_zero]
  repeat
    first
    | (refine Trk.calm_value (v := ?_) (by decide) (by decide) rfl (fun σ w1 hS => ?_) ?_
       rotate_left
       · skip
         first | (go_simp; rfl) | rfl
       simp only [Act.put, List.setIfInBounds_toArray, List.set_cons_zero, List.set_cons_succ])
    | (refine Trk.calm_skip (by decide) rfl ?_
       simp only [Act.put, List.setIfInBounds_toArray, List.set_cons_zero, List.set_cons_succ])
  refine kcalm_call (v := .int .i64 V) (by decide) (by decide) rfl (fun w1 => (by go_simp; first | exact ⟨rfl, rfl⟩ | rfl)) (fun σ w1 hS hn => ?_) ?_
  · rw [hn] at hS
    refine (HT.out _ hS).mono ?_
    rintro e w2 ⟨_, rfl, rfl, h2⟩
    refine ⟨rfl, ?_⟩
    simpa [Sig.upd] using h2
  simp only [Act.put, List.setIfInBounds_toArray, List.set_cons_zero, List.set_cons_succ]
  refine Trk.calm_nil ?_
  intro σ wd _ hσ HD
  have h8 := hσ 9 (by decide)
  rw [if_pos h8] at HD
  clear H hσ h8
  simp only [putNew, List.foldl_nil]
  go_wp2
  go_ret
  exact ⟨_, rfl, by go_num, HD⟩
theorem tk_zero {s : ByteArray} {n : Nat} {e : Int} (hn : n ≤ 8 * s.size) : tkV s n ((0 : Nat) : Int) = 0 ∧ tkN s n ((0 : Nat) : Int) = n ∧ tkE s n ((0 : Nat) : Int) e = e := by
  have h : tkOk s n ((0 : Nat) : Int) := by unfold tkOk; omega
  unfold tkV tkN tkE
  rw [if_pos h, if_pos h, if_pos h]
  simp [valOf]
theorem tkE_ne {s : ByteArray} {n k : Nat} {e : Int} (h : e ≠ 0) : tkE s n k e = e := by
  unfold tkE
  split
  · rfl
  · rfl
/-- A number that is told, and bits more. -/
theorem add_got {s : ByteArray} {n k b : Nat} {e : Int} (hk : k ≤ 16) (hn : n ≤ 8 * s.size) (he : e = 0) : GotR ((takeG (textBits s) k n).bind fun v m => .ok (b + v) m) (b + tkV s n k) (tkN s n k) (tkE s n k e) := by
  subst he
  have h := (tk_got (s := s) (n := n) (k := k) (by omega) hn).1
  unfold takeG at h ⊢
  unfold tkE
  split at h
  · next hl =>
    obtain ⟨h1, h2, h3⟩ := h
    rw [if_pos hl, Got.bind_ok, h1, h2]
    refine ⟨rfl, rfl, ?_⟩
    split
    · rfl
    · next ho => rw [if_neg ho] at h3; omega
  · next hl =>
    have h3 : (if tkOk s n k then (0 : Int) else 2) = 2 := h
    rw [if_neg hl, Got.bind_ran]
    show _ = (2 : Int)
    split
    · next ho => rw [if_pos ho] at h3; omega
    · rfl

set_option maxRecDepth 100000 in
set_option maxHeartbeats 1600000 in
theorem inlength_any {w0 w : World} {ps : List Piece} {g rg n : Nat} {s : ByteArray} {out : List Int} {most e : Int} (c : Nat) (hc : 257 ≤ c) (hc2 : c ≤ 1000000) (hs : s.size ≤ 1000000) (hn : n ≤ 8 * s.size) (H : Own w0 w (Inr g rg s n out most e :: ps)) :
    Calls Try.prog 54 #[.pointer (some ⟨g, 0, none⟩), .int .i64 (c : Int)] w (Ret fun r w' => ∃ v n' e', r = .int .i64 v ∧ 0 ≤ v ∧ v ≤ 70000 ∧ n' ≤ 8 * s.size ∧ (e ≠ 0 → e' = e) ∧ (e' = 0 → 1 ≤ v) ∧ (e = 0 → GotR (lenG (textBits s) c n) v n' e') ∧ Own w0 w' (Inr g rg s n' out most e' :: ps)) := by
  by_cases h1 : c < 265
  · obtain ⟨i, rfl⟩ : ∃ i, c = 257 + i := ⟨c - 257, by omega⟩
    have hi : i < 8 := by omega
    have hg : Hid (e = 0 → GotR (lenG (textBits s) ((257 + i : Nat) : Int) n) (3 + (i : Int)) n e) := Lib.hid (by
      intro he
      unfold lenG
      rw [if_neg (by omega), Int.toNat_natCast, lenT0_small i hi]
      have h := add_got (s := s) (n := n) (k := 0) (b := 3 + i) (e := e) (by omega) hn he
      obtain ⟨z1, z2, z3⟩ := tk_zero (s := s) (e := e) hn
      rw [z1, z2, z3] at h
      simpa using h)
    have hl : (257 : Int) + (i : Int) < 265 := by omega
    have hw : IntKind.i64.wrap (257 + (i : Int) - 254) = 3 + (i : Int) := by rw [show 257 + (i : Int) - 254 = 3 + i by omega]; exact IntWalk.i64_in _ ⟨by omega, by omega⟩
    clear hc hc2 h1
    go_enter Try.func54, Try.ntmps54
    go_wp2
    go_ret
    exact ⟨_, rfl, 3 + (i : Int), n, e, by go_num, by omega, by omega, hn, fun _ => rfl, fun _ => by omega, hg.out, H⟩
  by_cases h2 : c < 285
  · obtain ⟨i, rfl⟩ : ∃ i, c = 265 + i := ⟨c - 265, by omega⟩
    have hi : i < 20 := by omega
    refine (inlength_mid i hi hs hn H).mono ?_
    rintro e1 w1 ⟨_, rfl, rfl, H1⟩
    have hm := lenT0_mid i hi
    have hb : 1 ≤ (lenT0 (265 + i)).1 ∧ (lenT0 (265 + i)).1 ≤ 230 ∧ (lenT0 (265 + i)).2 ≤ 5 := by
      have : ∀ i : Fin 20, 1 ≤ (lenT0 (265 + i.val)).1 ∧ (lenT0 (265 + i.val)).1 ≤ 230 ∧ (lenT0 (265 + i.val)).2 ≤ 5 := by decide
      exact this ⟨i, hi⟩
    have hV := (tk_got (s := s) (n := n) (k := (lenT0 (265 + i)).2) (by omega) hn).2
    have hV2 := tkV_lt (s := s) (n := n) (k := (lenT0 (265 + i)).2) (by omega)
    refine ⟨_, rfl, _, _, _, rfl, by omega, by omega, hV.1, fun h => tkE_ne h, fun _ => by omega, fun h => ?_, H1⟩
    unfold lenG
    rw [if_neg (by omega), Int.toNat_natCast]
    exact add_got (by omega) hn h
  by_cases h3 : c = 285
  · subst h3
    have hg : Hid (e = 0 → GotR (lenG (textBits s) ((285 : Nat) : Int) n) 258 n e) := Lib.hid (by
      intro he
      unfold lenG
      rw [if_neg (by omega), Int.toNat_natCast, lenT0_last]
      have h := add_got (s := s) (n := n) (k := 0) (b := 258) (e := e) (by omega) hn he
      obtain ⟨z1, z2, z3⟩ := tk_zero (s := s) (e := e) hn
      rw [z1, z2, z3] at h
      simpa using h)
    clear hc hc2 h1 h2
    go_enter Try.func54, Try.ntmps54
    go_wp2
    go_ret
    exact ⟨_, rfl, 258, n, e, rfl, by omega, by omega, hn, fun _ => rfl, fun _ => by omega, hg.out, H⟩
  · have HH := Lib.hid (infail_any (g := g) (rg := rg) 2 (by decide) H)
    have hb1 : ¬ (c : Int) < 265 := by omega
    have hb2 : ((c : Int) == 285) = false := by simp; omega
    have hb3 : 285 < (c : Int) := by omega
    clear hc hc2 h1 h2 h3
    go_enter Try.func54, Try.ntmps54
    go_wp2_with fail
    refine HH.out.mono ?_
    rintro e1 w1 ⟨_, rfl, H1⟩
    go_wp2
    go_ret
    refine ⟨_, rfl, 0, n, _, rfl, by omega, by omega, hn, fun h => if_neg h, fun h => ?_, fun h => ?_, H1⟩
    · split at h <;> omega
    unfold lenG
    rw [if_pos hb3, if_pos h]
    rfl

theorem distT0_small (i : Nat) (h : i < 4) : distT0 i = (1 + i, 0) := by
  have : ∀ i : Fin 4, distT0 i.val = (1 + i.val, 0) := by decide
  exact this ⟨i, h⟩
theorem distT0_mid (i : Nat) (h : i < 26) : distT0 (4 + i) = (1 + (2 + i % 2) * 2 ^ (i / 2 + 1), i / 2 + 1) := by
  have : ∀ i : Fin 26, distT0 (4 + i.val) = (1 + (2 + i.val % 2) * 2 ^ (i.val / 2 + 1), i.val / 2 + 1) := by decide
  exact this ⟨i, h⟩
set_option maxRecDepth 100000 in
set_option maxHeartbeats 1600000 in
theorem indist_mid {w0 w : World} {ps : List Piece} {g rg n : Nat} {s : ByteArray} {out : List Int} {most e : Int} (i : Nat) (hi : i < 26) (hs : s.size ≤ 1000000) (hn : n ≤ 8 * s.size) (H : Own w0 w (Inr g rg s n out most e :: ps)) :
    Calls Try.prog 55 #[.pointer (some ⟨g, 0, none⟩), .int .i64 ((4 + i : Nat) : Int)] w (Ret fun r w' => r = .int .i64 ((distT0 (4 + i)).1 + tkV s n ((distT0 (4 + i)).2 : Nat)) ∧ Own w0 w' (Inr g rg s (tkN s n ((distT0 (4 + i)).2 : Nat)) out most (tkE s n ((distT0 (4 + i)).2 : Nat) e) :: ps)) := by
  rw [distT0_mid i hi]
  obtain ⟨j, hj⟩ : ∃ j, Hid (i / 2 + 1 = j) := ⟨_, rfl⟩
  have hj1 : 1 ≤ j ∧ j ≤ 13 := by have := hj.out; omega
  simp only
  rw [hj.out]
  have hV := (tk_got (s := s) (n := n) (k := j) (by omega) hn).2.2
  have hV2 := tkV_lt (s := s) (n := n) (k := j) (by omega)
  have HT : ∀ wz, Own w0 wz (Inr g rg s n out most e :: ps) → _ := fun wz h => intake_tk j (by omega) h hs hn
  replace HT := Lib.hid HT
  obtain ⟨V, hv⟩ : ∃ V, Hid (tkV s n j = V) := ⟨_, rfl⟩
  obtain ⟨M, hm⟩ : ∃ M, Hid (tkN s n j = M) := ⟨_, rfl⟩
  obtain ⟨E, hE⟩ : ∃ E, Hid (tkE s n j e = E) := ⟨_, rfl⟩
  have hE2 : (if tkOk s n j then e else if e = 0 then 2 else e) = E := hE.out
  rw [hv.out, hm.out, hE2] at HT
  rw [hv.out] at hV hV2
  rw [hv.out, hm.out, hE.out]
  clear hE2
  obtain ⟨q, hq⟩ : ∃ q : Nat, Hid (i % 2 = q) := ⟨_, rfl⟩
  have hq4 : q ≤ 1 := by have := hq.out; omega
  rw [hq.out]
  obtain ⟨c, hc⟩ : ∃ c : Nat, Hid (4 + i = c) := ⟨_, rfl⟩
  rw [hc.out]
  have hc1 : 4 ≤ c ∧ c ≤ 29 := by have := hc.out; omega
  obtain ⟨hc1, hc2⟩ := hc1
  have hlt : ¬ (c : Int) < 4 := by omega
  have hgt : ¬ 29 < (c : Int) := by omega
  have d1 : ((c : Int) - 2) / 2 = (j : Int) := by have := hc.out; have := hj.out; omega
  have d2 : (c : Int).tmod 2 = (q : Int) := by have := hc.out; have := hq.out; rw [Int.tmod_eq_emod_of_nonneg (by omega)]; omega
  have d3 : (c : Int) % 2 = (q : Int) := by have := hc.out; have := hq.out; omega
  obtain ⟨b, hb⟩ : ∃ b : Nat, Hid ((2 + q) * 2 ^ j = b) := ⟨_, rfl⟩
  have hb1 : b ≤ 24576 := by
    rw [← hb.out]
    calc (2 + q) * 2 ^ j ≤ 3 * 2 ^ 13 := Nat.mul_le_mul (by omega) (Nat.pow_le_pow_right (by omega) hj1.2)
      _ = 24576 := rfl
  rw [hb.out]
  have d4 : (2 + (q : Int)) * 2 ^ j = (b : Int) := by rw [← hb.out, Int.natCast_mul, Int.natCast_pow]; rfl
  have d5 : IntKind.i64.wrap (b : Int) = (b : Int) := IntWalk.i64_in _ ⟨by omega, by omega⟩
  have d6 : IntKind.i64.wrap (2 + (q : Int)) = 2 + (q : Int) := IntWalk.i64_in _ ⟨by omega, by omega⟩
  have d7 : IntKind.i64.wrap (1 + (b : Int)) = 1 + (b : Int) := IntWalk.i64_in _ ⟨by omega, by omega⟩
  have d8 : IntKind.i64.wrap ((c : Int) - 2) = (c : Int) - 2 := IntWalk.i64_in _ ⟨by omega, by omega⟩
  have d10 : IntKind.i64.wrap (q : Int) = (q : Int) := IntWalk.i64_in _ ⟨by omega, by omega⟩
  have d11 : (j : Int) < 64 := by omega
  have d12 : ¬ (j : Int) < 0 := by omega
  have d13 : IntKind.i64.wrap (1 + (b : Int) + V) = 1 + (b : Int) + V := IntWalk.i64_in _ ⟨by omega, by omega⟩
  clear hj1
  go_enter Try.func55, Try.ntmps55
  go_upto_region 7 with (fail)
  refine Trk.wp_region_new (fun σ w1 => Own w0 w1 ((if (σ 8).isSome then Inr g rg s M out most E else Inr g rg s n out most e) :: ps)) 9 [] [8] (by intro k hk; simp at hk; subst hk; exact ⟨by omega, by simp, fun o ho => by simp at ho; subst ho; rfl⟩) (by kernel_rfl) (by kernel_rfl) H.drew ?_
  simp only [List.take_succ_cons, List.take_zero, List.drop_succ_cons, List.drop_zero]
  repeat
    first
    | (refine Trk.calm_value (v := ?_) (by decide) (by decide) rfl (fun σ w1 hS => ?_) ?_
       rotate_left
       · skip
         first | (go_simp; rfl) | rfl
       simp only [Act.put, List.setIfInBounds_toArray, List.set_cons_zero, List.set_cons_succ])
    | (refine Trk.calm_skip (by decide) rfl ?_
       simp only [Act.put, List.setIfInBounds_toArray, List.set_cons_zero, List.set_cons_succ])
  refine kcalm_call (v := .int .i64 V) (by decide) (by decide) rfl (fun w1 => (by go_simp; first | exact ⟨rfl, rfl⟩ | rfl)) (fun σ w1 hS hn => ?_) ?_
  · rw [hn] at hS
    refine (HT.out _ hS).mono ?_
    rintro e w2 ⟨_, rfl, rfl, h2⟩
    refine ⟨rfl, ?_⟩
    simpa [Sig.upd] using h2
  simp only [Act.put, List.setIfInBounds_toArray, List.set_cons_zero, List.set_cons_succ]
  refine Trk.calm_nil ?_
  intro σ wd _ hσ HD
  have h8 := hσ 8 (by decide)
  rw [if_pos h8] at HD
  clear H hσ h8
  simp only [putNew, List.foldl_nil]
  go_wp2
  go_ret
  exact ⟨_, rfl, by go_num, HD⟩
set_option maxRecDepth 100000 in
set_option maxHeartbeats 1600000 in
theorem indist_any {w0 w : World} {ps : List Piece} {g rg n : Nat} {s : ByteArray} {out : List Int} {most e : Int} (c : Nat) (hc2 : c ≤ 1000000) (hs : s.size ≤ 1000000) (hn : n ≤ 8 * s.size) (H : Own w0 w (Inr g rg s n out most e :: ps)) :
    Calls Try.prog 55 #[.pointer (some ⟨g, 0, none⟩), .int .i64 (c : Int)] w (Ret fun r w' => ∃ v n' e', r = .int .i64 v ∧ 0 ≤ v ∧ v ≤ 100000 ∧ n' ≤ 8 * s.size ∧ (e ≠ 0 → e' = e) ∧ (e' = 0 → 1 ≤ v) ∧ (e = 0 → GotR (distG (textBits s) c n) v n' e') ∧ Own w0 w' (Inr g rg s n' out most e' :: ps)) := by
  by_cases h1 : c < 4
  · have hg : Hid (e = 0 → GotR (distG (textBits s) (c : Int) n) (1 + (c : Int)) n e) := Lib.hid (by
      intro he
      unfold distG
      rw [if_neg (by omega), Int.toNat_natCast, distT0_small c h1]
      have h := add_got (s := s) (n := n) (k := 0) (b := 1 + c) (e := e) (by omega) hn he
      obtain ⟨z1, z2, z3⟩ := tk_zero (s := s) (e := e) hn
      rw [z1, z2, z3] at h
      simpa using h)
    have hl : (c : Int) < 4 := by omega
    have hw : IntKind.i64.wrap ((c : Int) + 1) = 1 + (c : Int) := by rw [show (c : Int) + 1 = 1 + c by omega]; exact IntWalk.i64_in _ ⟨by omega, by omega⟩
    clear hc2 h1
    go_enter Try.func55, Try.ntmps55
    go_wp2
    go_ret
    exact ⟨_, rfl, 1 + (c : Int), n, e, by go_num, by omega, by omega, hn, fun _ => rfl, fun _ => by omega, hg.out, H⟩
  by_cases h2 : c < 30
  · obtain ⟨i, rfl⟩ : ∃ i, c = 4 + i := ⟨c - 4, by omega⟩
    have hi : i < 26 := by omega
    refine (indist_mid i hi hs hn H).mono ?_
    rintro e1 w1 ⟨_, rfl, rfl, H1⟩
    have hb : 1 ≤ (distT0 (4 + i)).1 ∧ (distT0 (4 + i)).1 ≤ 24577 ∧ (distT0 (4 + i)).2 ≤ 13 := by
      have : ∀ i : Fin 26, 1 ≤ (distT0 (4 + i.val)).1 ∧ (distT0 (4 + i.val)).1 ≤ 24577 ∧ (distT0 (4 + i.val)).2 ≤ 13 := by decide
      exact this ⟨i, hi⟩
    have hV := (tk_got (s := s) (n := n) (k := (distT0 (4 + i)).2) (by omega) hn).2
    have hV2 := tkV_lt (s := s) (n := n) (k := (distT0 (4 + i)).2) (by omega)
    refine ⟨_, rfl, _, _, _, rfl, by omega, by omega, hV.1, fun h => tkE_ne h, fun _ => by omega, fun h => ?_, H1⟩
    unfold distG
    rw [if_neg (by omega), Int.toNat_natCast]
    exact add_got (by omega) hn h
  · have HH := Lib.hid (infail_any (g := g) (rg := rg) 2 (by decide) H)
    have hb1 : ¬ (c : Int) < 4 := by omega
    have hb3 : 29 < (c : Int) := by omega
    clear hc2 h1 h2
    go_enter Try.func55, Try.ntmps55
    go_wp2_with fail
    refine HH.out.mono ?_
    rintro e1 w1 ⟨_, rfl, H1⟩
    go_wp2
    go_ret
    refine ⟨_, rfl, 0, n, _, rfl, by omega, by omega, hn, fun h => if_neg h, fun h => ?_, fun h => ?_, H1⟩
    · split at h <;> omega
    · unfold distG
      rw [if_pos hb3, if_pos h]
      rfl
end Go.Proofs.Ytnebacnmbigaaaa
/- Bits: the document's Left, Take. -/
namespace Go.Proofs.Ytnebacnmbigaaaa
open Go.RowKit

/-- The document's reader of a text, n bits taken. -/
def RRdr (g : Nat) (s : ByteArray) (n : Nat) : Piece := blk g (.cells #[.string s, .int .i64 n] 73)
set_option maxHeartbeats 400000 in
theorem rleft_any {w0 w : World} {ps : List Piece} {g : Nat} {s : ByteArray} {n : Nat} (H : Own w0 w (RRdr g s n :: ps)) (hs : s.size ≤ 281474976710656) (hn : n ≤ 2251799813685248) :
    Calls Try.prog 97 #[.pointer (some ⟨g, 0, none⟩)] w fun e w' => e = .returned (.int .i64 (8 * s.size - n)) ∧ Own w0 w' (RRdr g s n :: ps) := by
  unfold RRdr at H ⊢
  obtain ⟨z, hz⟩ : ∃ z, Hid (s.size = z) := ⟨_, rfl⟩
  have hz2 := hz.out
  rw [hz2] at hs ⊢
  have hw : IntKind.i64.wrap (8 * (z : Int)) = 8 * z := IntWalk.i64_in _ ⟨by omega, by omega⟩
  have hw2 : IntKind.i64.wrap (8 * (z : Int) - n) = 8 * z - n := IntWalk.i64_in _ ⟨by omega, by omega⟩
  go_enter Try.func97, Try.ntmps97
  go_upto_region 1 with (fail)
  refine wp_region_calm (fun w1 => Own w0 w1 (blk g (.cells #[.string s, .int .i64 n] 73) :: ps)) 11 (by kernel_rfl) (by kernel_rfl) H.drew ?_
  simp only [List.take_succ_cons, List.take_zero, List.drop_succ_cons, List.drop_zero]
  repeat
    refine calm_value (v := ?_) (by decide) rfl (fun σ w1 hS => ?_) ?_; rotate_left
    · have c0 := hS.cells
      first | (go_simp; rfl) | rfl
    simp only [Act.put, List.setIfInBounds_toArray, List.set_cons_zero, List.set_cons_succ]
  refine calm_nil ?_
  intro wd HD
  go_wp2
  go_ret
  exact ⟨rfl, HD⟩
set_option maxHeartbeats 800000 in
theorem rtake_yes {w0 w : World} {ps : List Piece} {g : Nat} {s : ByteArray} {n : Nat} (m : Nat) (H : Own w0 w (RRdr g s n :: ps)) (hs : s.size ≤ 281474976710656) (hm : m ≤ 62) (hn : n + m ≤ 8 * s.size) :
    Calls Try.prog 78 #[.pointer (some ⟨g, 0, none⟩), .int .i64 m] w (Ret fun v w' => v = .tuple #[.int .i64 (valOf (((textBits s).drop n).take m)), .bool true] ∧ Own w0 w' (RRdr g s (n + m) :: ps)) := by
  obtain ⟨z, hz⟩ : ∃ z, Hid (s.size = z) := ⟨_, rfl⟩
  have hz2 := hz.out
  rw [hz2] at hs hn
  clear hz2
  obtain ⟨bs, hbs⟩ : ∃ bs, Hid ((textBits s).drop n = bs) := ⟨_, rfl⟩
  rw [hbs.out]
  have hbl : Hid (bs.length = 8 * z - n) := Lib.hid (by rw [← hbs.out, List.length_drop, textBits_length, hz.out])
  go_enter Try.func78, Try.ntmps78
  go_wp2_with fail
  refine (rleft_any H (by rw [hz.out]; exact hs) (by omega)).mono ?_
  rintro e w1 ⟨rfl, H1⟩
  rw [hz.out]
  clear H
  have hle : (m : Int) ≤ 8 * (z : Int) - n := by omega
  go_wp2_with fail
  go_loopw [6, 7] (fun x i wx => ∃ k : Nat, ∃ u d : Int, k ≤ m ∧ i = .int .i64 d ∧ Hid (d = (m : Int) - 1 - k) ∧ x = .int .i64 u ∧ Hid (u = valOf ((bs.drop (m - k)).take k)) ∧ Own w0 wx (RRdr g s n :: ps)) (fun _ i _ => (intOf i + 1).toNat)
  case atStart => exact ⟨0, 0, _, Nat.zero_le _, rfl, Lib.hid (by omega), rfl, Lib.hid rfl, H1⟩
  case round =>
    clear H1
    obtain ⟨k, u, d, hk, rfl, hd, rfl, hu, H⟩ := hrel
    unfold RRdr at H
    have c0 := H.cells
    by_cases hlt : k < m
    · obtain ⟨j, hj⟩ : ∃ j, Hid (m - 1 - k = j) := ⟨_, rfl⟩
      obtain rfl : d = (j : Int) := by have := hd.out; have := hj.out; omega
      obtain ⟨p, hp⟩ : ∃ p, Hid (n + j = p) := ⟨_, rfl⟩
      obtain ⟨r, hr⟩ : ∃ r, Hid (r = p % 8) := ⟨_, Lib.hid rfl⟩
      obtain ⟨q, hq⟩ : ∃ q, Hid (q = p / 8) := ⟨_, Lib.hid rfl⟩
      have hp8 : p < 8 * z := by have := hp.out; have := hj.out; omega
      have hj62 : j < 62 := by have := hj.out; omega
      have hpi : (n : Int) + (j : Int) = (p : Int) := by have := hp.out; omega
      have hrt : (p : Int).tmod 8 = (r : Int) := by have := hr.out; rw [Int.tmod_eq_emod_of_nonneg (by omega)]; omega
      have hqt : (p : Int).tdiv 8 = (q : Int) := by have := hq.out; rw [Int.tdiv_eq_ediv_of_nonneg (by omega)]; omega
      have hrt' : (p : Int) % 8 = (r : Int) := by have := hr.out; omega
      have hqt' : (p : Int) / 8 = (q : Int) := by have := hq.out; omega
      have hr8 : r < 8 := by have := hr.out; omega
      have hqs : q < s.size := by have := hz.out; have := hq.out; omega
      have hjl : j < bs.length := by have := hbl.out; have := hj.out; omega
      obtain ⟨b, hb⟩ : ∃ b, Hid (bs[j]? = some b) := ⟨bs[j], Lib.hid (List.getElem?_eq_getElem _)⟩
      have hbb : Hid (bitOf ((s[q].toNat : Nat) : Int) r = b) := Lib.hid (by
        have h1 := textBits_get s hqs hr8
        have h2 := hb.out
        rw [← hbs.out, List.getElem?_drop] at h2
        have e : n + j = 8 * q + r := by have := hp.out; have := hq.out; have := hr.out; omega
        rw [e, h1] at h2
        exact Option.some.inj h2)
      have hx8 := s[q].toNat_lt
      have hand : bits .and .i64 ((s[q].toNat : Int) / 2 ^ r) 1 = bi b := by rw [i64_and1, ← hbb.out, bi_bitOf]
      have hbd := bi_bd b
      obtain ⟨c, hc⟩ : ∃ c, Hid (bi b = c) := ⟨_, rfl⟩
      rw [hc.out] at hand hbd
      obtain ⟨hc0, hc1⟩ := hbd
      have hub := valOf_bd ((bs.drop (m - k)).take k)
      rw [← hu.out, List.length_take_of_le (by have := hbl.out; rw [List.length_drop]; omega)] at hub
      obtain ⟨hu0, hu1⟩ := hub
      have hu2 : u ≤ 2305843009213693951 := by
        have h1 : (2 : Int) ^ k ≤ 2 ^ 61 := pow2_le (by omega)
        have h61 : (2 : Int) ^ 61 = 2305843009213693952 := by decide
        omega
      clear hu1
      go_wp2
      go_round
      case rel => exact ⟨k + 1, 2 * u + c, _, by omega, rfl, Lib.hid (by have := hd.out; omega), rfl, Lib.hid (by
          have e1 : m - (k + 1) = j := by have := hj.out; omega
          have e2 : m - k = j + 1 := by have := hj.out; omega
          have e3 : bs[j] = b := by have := hb.out; rw [List.getElem?_eq_getElem hjl] at this; exact Option.some.inj this
          rw [e1, List.drop_eq_getElem_cons hjl, List.take_succ_cons, e3, valOf, hu.out, hc.out, e2]
          omega), H⟩
      case measure => simp [intOf]
    · have hd0 : d < 0 := by have := hd.out; omega
      obtain rfl : k = m := by omega
      have hnk : Hid ((n : Int) + k = ((n + k : Nat) : Int)) := Lib.hid (by omega)
      go_wp2_with (refine wpList_store_int rfl _ _ rfl rfl H rfl (by kernel_rfl) (by simp) ?_; clear H c0; intro w3 H)
      go_ret2
      refine ⟨.tuple #[.int .i64 u, .bool true], rfl, by rw [hu.out]; simp, ?_⟩
      rw [hnk.out] at H
      simpa [RRdr] using H
set_option maxHeartbeats 800000 in
theorem rtake_no {w0 w : World} {ps : List Piece} {g : Nat} {s : ByteArray} {n : Nat} (m : Int) (hm1 : -9223372036854775808 ≤ m) (hm2 : m ≤ 9223372036854775807) (H : Own w0 w (RRdr g s n :: ps)) (hs : s.size ≤ 281474976710656) (hn : n ≤ 2251799813685248) (hno : m < 0 ∨ 62 < m ∨ 8 * (s.size : Int) - n < m) :
    Calls Try.prog 78 #[.pointer (some ⟨g, 0, none⟩), .int .i64 m] w (Ret fun v w' => v = .tuple #[.int .i64 0, .bool false] ∧ Own w0 w' (RRdr g s n :: ps)) := by
  obtain ⟨z, hz⟩ : ∃ z, Hid (s.size = z) := ⟨_, rfl⟩
  rw [hz.out] at hno
  go_enter Try.func78, Try.ntmps78
  by_cases h1 : m < 0
  · go_wp2
    go_ret2
    exact ⟨_, rfl, rfl, H⟩
  by_cases h2 : 62 < m
  · go_wp2
    go_ret2
    exact ⟨_, rfl, rfl, H⟩
  have h3 : 8 * (z : Int) - n < m := by omega
  clear hno
  go_wp2_with fail
  refine (rleft_any H hs hn).mono ?_
  rintro e w1 ⟨rfl, H1⟩
  rw [hz.out]
  go_wp2
  go_ret2
  exact ⟨_, rfl, rfl, H1⟩
theorem rtake_any {w0 w : World} {ps : List Piece} {g : Nat} {s : ByteArray} {n : Nat} (m : Int) (hm : -9223372036854775808 ≤ m ∧ m ≤ 9223372036854775807) (H : Own w0 w (RRdr g s n :: ps)) (hs : s.size ≤ 1000000) (hn : n ≤ 8 * s.size) :
    Calls Try.prog 78 #[.pointer (some ⟨g, 0, none⟩), .int .i64 m] w (Ret fun v w' => v = .tuple #[.int .i64 (tkV s n m), .bool (decide (tkOk s n m))] ∧ Own w0 w' (RRdr g s (tkN s n m) :: ps)) := by
  by_cases h : tkOk s n m
  · have h' := h
    unfold tkOk at h'
    obtain ⟨k, rfl⟩ : ∃ k : Nat, m = k := ⟨m.toNat, by omega⟩
    have := rtake_yes k H (by omega) (by omega) (by omega)
    simpa [tkV, tkN, h] using this
  · have h' := h
    unfold tkOk at h'
    have := rtake_no m hm.1 hm.2 H (by omega) (by omega) (by omega)
    simpa [tkV, tkN, h] using this
end Go.Proofs.Ytnebacnmbigaaaa
/- The document's Reader: Align, Text. -/
namespace Go.Proofs.Ytnebacnmbigaaaa
open Go.RowKit

set_option maxHeartbeats 400000 in
theorem rralign_any {w0 w : World} {ps : List Piece} {g : Nat} {s : ByteArray} {n : Nat} (H : Own w0 w (RRdr g s n :: ps)) (hn : n ≤ 2251799813685248) :
    Calls Try.prog 80 #[.pointer (some ⟨g, 0, none⟩)] w (Ret fun _ w' => Own w0 w' (RRdr g s (8 * nbytes n) :: ps)) := by
  unfold RRdr at H
  obtain ⟨z, hz, hz1, hz2⟩ : ∃ z, Hid (8 * nbytes n = z) ∧ n ≤ z ∧ z ≤ n + 7 := ⟨_, Lib.hid rfl, by unfold nbytes; omega, by unfold nbytes; omega⟩
  have hz8 : Hid (z % 8 = 0) := Lib.hid (by have := hz.out; omega)
  go_enter Try.func80, Try.ntmps80
  go_wp2_with fail
  go_loopw [2] (fun _ wx => ∃ k : Nat, n ≤ k ∧ k ≤ z ∧ Own w0 wx (blk g (.cells #[.string s, .int .i64 k] 73) :: ps)) (fun _ wx => z - (intOf ((wx.cell? ⟨g, 1, none⟩).getD undef)).toNat)
  case atStart => exact ⟨n, Nat.le_refl _, hz1, H⟩
  case round =>
    clear H
    obtain ⟨k, hk0, hk, H⟩ := hrel
    have c0 := H.cells
    have hm0 : Hid ((intOf ((wr.cell? ⟨g, 1, none⟩).getD undef)).toNat = k) := Lib.hid (by rw [c0]; simp [intOf])
    by_cases hlt : k < z
    · have hr : ((k : Int) % 8 == 0) = false := by have := hz8.out; have := hz.out; simp; unfold nbytes at this; omega
      have hr2 : ((k : Int).tmod 8 == 0) = false := by rw [Int.tmod_eq_emod_of_nonneg (by omega)]; exact hr
      go_wp2_with (refine wpList_store_int rfl _ _ rfl rfl H rfl (by kernel_rfl) (by simp) ?_; clear H c0; intro w3 H)
      have c0 := H.cells
      simp only [Act.put]
      go_roundw
      case rel => exact ⟨k + 1, by omega, by omega, by simpa using H⟩
      case measure =>
        rw [hm0.out, c0]
        simp [intOf]
        omega
    · obtain rfl : k = z := by omega
      have hr : (k : Int) % 8 = 0 := by have := hz8.out; omega
      have hr2 : (k : Int).tmod 8 = 0 := by rw [Int.tmod_eq_emod_of_nonneg (by omega)]; exact hr
      go_wp2
      go_end0
      rw [hz.out]
      exact ⟨_, rfl, H⟩
set_option maxHeartbeats 400000 in
theorem rrtext_yes {w0 w : World} {ps : List Piece} {g : Nat} {s : ByteArray} {n : Nat} (m : Nat) (H : Own w0 w (RRdr g s n :: ps)) (hs : s.size ≤ 281474976710656) (hm : nbytes n + m ≤ s.size) :
    Calls Try.prog 81 #[.pointer (some ⟨g, 0, none⟩), .int .i64 m] w (Ret fun v w' => v = .tuple #[.string (s.extract (nbytes n) (nbytes n + m)), .bool true] ∧ Own w0 w' (RRdr g s (8 * (nbytes n + m)) :: ps)) := by
  obtain ⟨z, hz⟩ : ∃ z, Hid (s.size = z) := ⟨_, rfl⟩
  obtain ⟨q, hq⟩ : ∃ q, Hid (q = nbytes n) := ⟨_, Lib.hid rfl⟩
  rw [← hq.out] at hm ⊢
  have hmz : q + m ≤ z := by rw [← hz.out]; exact hm
  have hz3 : z ≤ 281474976710656 := by rw [← hz.out]; exact hs
  have hqt : ((n : Int) + 7).tdiv 8 = (q : Int) := by have := hq.out; unfold nbytes at this; rw [Int.tdiv_eq_ediv_of_nonneg (by omega)]; omega
  have hqt' : ((n : Int) + 7) / 8 = (q : Int) := by have := hq.out; unfold nbytes at this; omega
  have hn : n ≤ 2251799813685248 := by have := hq.out; unfold nbytes at this; omega
  have hle : (m : Int) ≤ (s.size : Int) - (q : Int) := by have := hz.out; omega
  have h8 : Hid (8 * ((q : Int) + (m : Int)) = ((8 * (q + m) : Nat) : Int)) := Lib.hid (by omega)
  unfold RRdr at H
  have c0 := H.cells
  go_enter Try.func81, Try.ntmps81
  go_wp2_with (refine wpList_store_int rfl _ _ rfl rfl H rfl (by kernel_rfl) (by simp) ?_; clear H c0; intro w3 H; have c0 := H.cells)
  go_ret2
  refine ⟨_, rfl, rfl, ?_⟩
  rw [h8.out] at H
  simpa [RRdr] using H
set_option maxHeartbeats 400000 in
theorem rrtext_no {w0 w : World} {ps : List Piece} {g : Nat} {s : ByteArray} {n : Nat} (m : Int) (hm1 : -9223372036854775808 ≤ m) (hm2 : m ≤ 9223372036854775807) (H : Own w0 w (RRdr g s n :: ps)) (hs : s.size ≤ 281474976710656) (hn : n ≤ 2251799813685248) (hno : m < 0 ∨ (s.size : Int) - nbytes n < m) :
    Calls Try.prog 81 #[.pointer (some ⟨g, 0, none⟩), .int .i64 m] w (Ret fun v w' => v = .tuple #[.string ByteArray.empty, .bool false] ∧ Own w0 w' (RRdr g s n :: ps)) := by
  obtain ⟨q, hq⟩ : ∃ q, Hid (q = nbytes n) := ⟨_, Lib.hid rfl⟩
  rw [← hq.out] at hno
  have hqt : ((n : Int) + 7).tdiv 8 = (q : Int) := by have := hq.out; unfold nbytes at this; rw [Int.tdiv_eq_ediv_of_nonneg (by omega)]; omega
  have hqt' : ((n : Int) + 7) / 8 = (q : Int) := by have := hq.out; unfold nbytes at this; omega
  have hqb : q ≤ 281474976710656 := by have := hq.out; unfold nbytes at this; omega
  have H0 := H
  unfold RRdr at H
  have c0 := H.cells
  go_enter Try.func81, Try.ntmps81
  by_cases h1 : m < 0
  · go_wp2
    go_ret2
    exact ⟨_, rfl, rfl, H0⟩
  have h2 : (s.size : Int) - (q : Int) < m := by omega
  clear hno
  go_wp2
  go_ret2
  exact ⟨_, rfl, rfl, H0⟩
theorem rrtext_any {w0 w : World} {ps : List Piece} {g : Nat} {s : ByteArray} {n : Nat} (m : Int) (hm : -9223372036854775808 ≤ m ∧ m ≤ 9223372036854775807) (H : Own w0 w (RRdr g s n :: ps)) (hs : s.size ≤ 1000000) (hn : n ≤ 8 * s.size) :
    Calls Try.prog 81 #[.pointer (some ⟨g, 0, none⟩), .int .i64 m] w (Ret fun v w' => v = .tuple #[.string (txV s n m), .bool (decide (txOk s n m))] ∧ Own w0 w' (RRdr g s (txN s n m) :: ps)) := by
  by_cases h : txOk s n m
  · have h' := h
    unfold txOk at h'
    obtain ⟨k, rfl⟩ : ∃ k : Nat, m = k := ⟨m.toNat, by omega⟩
    have := rrtext_yes k H (by omega) (by omega)
    simpa [txV, txN, h] using this
  · have h' := h
    unfold txOk at h'
    have := rrtext_no m hm.1 hm.2 H (by omega) (by omega) (by omega)
    simpa [txV, txN, h] using this
end Go.Proofs.Ytnebacnmbigaaaa
/- inflate, the document's: the state; the walks of fault, ran, take. -/
namespace Go.Proofs.Ytnebacnmbigaaaa
open Go.RowKit

/-- The document's state: of a text, n bits taken; what there is, the limit, the first fault. -/
def Sta (g rg : Nat) (s : ByteArray) (n : Nat) (out : List Int) (most e : Int) : Piece := ex fun v : Value => ex fun b : Bool =>
  star (blk g (.cells #[.pointer (some ⟨rg, 0, none⟩), v, .int .i64 most, .int .i64 e, .bool b] 71)) (star (slc 5 1 v out.length (bcells out)) (RRdr rg s n))
theorem Own.sta {w0 w : World} {ps : List Piece} {g rg : Nat} {s : ByteArray} {n : Nat} {out : List Int} {most e : Int} (H : Own w0 w (Sta g rg s n out most e :: ps)) :
    ∃ a c b, out.length ≤ c ∧ c ≤ 9223372036854775807 ∧ Own w0 w (blk g (.cells #[.pointer (some ⟨rg, 0, none⟩), .slice a out.length c, .int .i64 most, .int .i64 e, .bool b] 71) :: slc 5 1 (.slice a out.length c) out.length (bcells out) :: RRdr rg s n :: ps) := by
  obtain ⟨v, H⟩ := H.ex
  obtain ⟨b, H⟩ := H.ex
  replace H := H.star
  replace H := (H.front 1 rfl).star
  obtain ⟨a, c, rfl, h1, h2⟩ := H.rd.shape
  exact ⟨a, c, _, h1, h2, (H.front 2 rfl)⟩
theorem Own.unsta {w0 w : World} {ps : List Piece} {g rg : Nat} {s : ByteArray} {n m : Nat} {out : List Int} {most e : Int} {v : Value} {b : Bool} (H : Own w0 w (blk g (.cells #[.pointer (some ⟨rg, 0, none⟩), v, .int .i64 most, .int .i64 e, .bool b] 71) :: slc 5 1 v m (bcells out) :: RRdr rg s n :: ps)) (hm : m = out.length) : Own w0 w (Sta g rg s n out most e :: ps) := by
  subst hm
  refine Own.unex v (Own.unex b (Own.unstar ?_))
  have h := ((H.front 2 rfl).front 2 rfl).unstar
  exact h.swap
/-- The first fault. -/
def fltF (bad : Bool) (x e : Int) : Int := if bad = true ∧ e = 0 then x else e
theorem flt_ne {bad : Bool} {x e : Int} (h : e ≠ 0) : fltF bad x e = e := by unfold fltF; rw [if_neg (by simp [h])]
theorem flt_no {x e : Int} : fltF false x e = e := by unfold fltF; rw [if_neg (by simp)]
theorem flt_yes {x : Int} : fltF true x 0 = x := rfl

set_option maxHeartbeats 800000 in
theorem rfault_any {w0 w : World} {ps : List Piece} {g rg n : Nat} {s : ByteArray} {out : List Int} {most e : Int} (bad : Bool) (x : Int) (H : Own w0 w (Sta g rg s n out most e :: ps)) :
    Calls Try.prog 60 #[.pointer (some ⟨g, 0, none⟩), .bool bad, .int .i64 x] w (Ret fun _ w' => Own w0 w' (Sta g rg s n out most (fltF bad x e) :: ps)) := by
  obtain ⟨a, c, b, h1, h2, H⟩ := H.sta
  have c0 := H.cells
  go_enter Try.func60, Try.ntmps60
  cases bad
  · rw [flt_no]
    go_wp2
    go_end0
    exact ⟨_, rfl, H.unsta rfl⟩
  by_cases h : e = 0
  · have hb : (e == 0) = true := by simp [h]
    have hf : Hid (fltF true x e = x) := Lib.hid (by rw [h]; rfl)
    rw [hf.out]
    clear h
    go_wp2_with (refine wpList_store_int rfl _ _ rfl rfl H rfl (by kernel_rfl) (by simp) ?_; clear H c0; intro w3 H)
    go_end0
    exact ⟨_, rfl, H.unsta rfl⟩
  · have hb : (e == 0) = false := by simp [h]
    rw [flt_ne h]
    go_wp2
    go_end0
    exact ⟨_, rfl, H.unsta rfl⟩
set_option maxHeartbeats 800000 in
theorem rran_any {w0 w : World} {ps : List Piece} {g rg n : Nat} {s : ByteArray} {out : List Int} {most e : Int} (bad : Bool) (H : Own w0 w (Sta g rg s n out most e :: ps)) :
    Calls Try.prog 79 #[.pointer (some ⟨g, 0, none⟩), .bool bad] w (Ret fun _ w' => Own w0 w' (Sta g rg s n out most (fltF bad 2 e) :: ps)) := by
  obtain ⟨a, c, b, h1, h2, H⟩ := H.sta
  have c0 := H.cells
  go_enter Try.func79, Try.ntmps79
  cases bad
  · rw [flt_no]
    go_wp2
    go_end0
    exact ⟨_, rfl, H.unsta rfl⟩
  by_cases h : e = 0
  · have hb : (e == 0) = true := by simp [h]
    have hf : Hid (fltF true 2 e = 2) := Lib.hid (by rw [h]; rfl)
    rw [hf.out]
    clear h
    go_wp2_with (first
      | (refine wpList_store_int rfl _ _ rfl rfl H rfl (by kernel_rfl) (by simp) ?_; clear H c0; intro w3 H)
      | (refine wpList_store_bool rfl _ _ rfl rfl H rfl (by kernel_rfl) (by simp) ?_; clear H; intro w4 H))
    go_end0
    exact ⟨_, rfl, H.unsta rfl⟩
  · have hb : (e == 0) = false := by simp [h]
    rw [flt_ne h]
    go_wp2
    go_end0
    exact ⟨_, rfl, H.unsta rfl⟩
set_option maxHeartbeats 800000 in
theorem rtake_tk {w0 w : World} {ps : List Piece} {g rg n : Nat} {s : ByteArray} {out : List Int} {most : Int} (k : Nat) (hk : k ≤ 16) (H : Own w0 w (Sta g rg s n out most 0 :: ps)) (hs : s.size ≤ 1000000) (hn : n ≤ 8 * s.size) :
    Calls Try.prog 59 #[.pointer (some ⟨g, 0, none⟩), .int .i64 k] w (Ret fun r w' => r = .int .i64 (tkV s n k) ∧ Own w0 w' (Sta g rg s (tkN s n k) out most (tkE s n k 0) :: ps)) := by
  obtain ⟨a, c, b, h1, h2, H⟩ := H.sta
  have c0 := H.cells
  obtain ⟨B, hB⟩ : ∃ B, Hid (decide (tkOk s n (k : Int)) = B) := ⟨_, rfl⟩
  have hE : tkE s n k 0 = fltF (!B) 2 0 := by
    rw [← hB.out]
    unfold tkE
    by_cases ho : tkOk s n (k : Int)
    · rw [if_pos ho, decide_eq_true ho]; rfl
    · rw [if_neg ho, decide_eq_false ho]; rfl
  rw [hE]
  generalize hV : tkV s n k = V at *
  generalize hM : tkN s n k = M at *
  have HT := Lib.hid (rtake_any (g := rg) k (by omega) H.rot3' hs hn)
  rw [hV, hM, hB.out] at HT
  clear hV hM hE
  go_enter Try.func59, Try.ntmps59
  go_wp2_with fail
  refine HT.out.mono ?_
  rintro e w1 ⟨_, rfl, rfl, H1⟩
  clear HT H c0
  have H := H1.rot3
  clear H1
  have HH := Lib.hid (rran_any (g := g) (rg := rg) (!B) (H.unsta rfl))
  clear hB
  go_wp2_with fail
  refine HH.out.mono ?_
  rintro e w2 ⟨_, rfl, H2⟩
  go_wp2
  go_ret
  exact ⟨_, rfl, rfl, H2⟩
end Go.Proofs.Ytnebacnmbigaaaa
/- huff: the walks of the document's Find and Decode. -/
namespace Go.Proofs.Ytnebacnmbigaaaa
open Go.RowKit

set_option maxRecDepth 100000 in
set_option maxHeartbeats 6400000 in
theorem find_any {w0 w : World} {ps : List Piece} {rg n m : Nat} {l : List Int} {s : ByteArray} {v u : Value} (hall : ∀ x ∈ l, 0 ≤ x ∧ x ≤ 15) (hm : l.length = m) (hm2 : m ≤ 1000000) (hs : s.size ≤ 281474976710656) (hn : n ≤ 8 * s.size)
    (hrd : ∀ k wz, Own w0 wz (RRdr rg s k :: ps) → Rd wz 1 v m (nums l) ∧ Rd wz 1 u m (nums (codesF l)))
    (H : Own w0 w (RRdr rg s n :: ps)) :
    Calls Try.prog 99 #[v, u, .pointer (some ⟨rg, 0, none⟩)] w (Ret fun r w' => r = .tuple #[.int .i64 (decF l ((textBits s).drop n)).1, .int .i64 (decF l ((textBits s).drop n)).2.1] ∧ Own w0 w' (RRdr rg s (n + (decF l ((textBits s).drop n)).2.2) :: ps)) := by
  obtain ⟨h1, h2⟩ := hrd _ _ H
  obtain ⟨va, vc, rfl, hv1, hv2⟩ := h1.shape
  obtain ⟨ua, uc, rfl, hu1, hu2⟩ := h2.shape
  obtain ⟨bs, hbs⟩ : ∃ bs, Hid ((textBits s).drop n = bs) := ⟨_, rfl⟩
  rw [hbs.out]
  have hbl : Hid (bs.length = 8 * s.size - n) := Lib.hid (by rw [← hbs.out, List.length_drop, textBits_length])
  obtain ⟨x1, x2, x3, hD⟩ : ∃ x1 x2 x3, Hid (decF l bs = (x1, x2, x3)) := ⟨_, _, _, rfl⟩
  rw [hD.out]
  have HALL := Lib.hid hall
  have HRD := Lib.hid hrd
  have HM := Lib.hid hm
  clear hall hrd h1 h2 hm
  go_enter Try.func99, Try.ntmps99
  go_wp2_with fail
  go_loopw [8, 9] (fun s8 s9 wx => ∃ (i : Nat) (c : Int) (y : Int × Int × Nat), s9 = .int .i64 ((i : Int) + 1) ∧ s8 = .int .i64 c ∧ i ≤ 15 ∧ i ≤ bs.length ∧ 0 ≤ c ∧ Hid (c < 2 ^ i) ∧ Hid (lowF l i + cntC l i ≤ c) ∧ Hid (decN l (15 - i) i c (bs.drop i) = y) ∧ Hid (y.1 = x1 ∧ y.2.1 = x2 ∧ i + y.2.2 = x3) ∧ Own w0 wx (RRdr rg s (n + i) :: ps)) (fun _ s9 _ => 16 - (intOf s9).toNat)
  case atStart =>
    exact ⟨0, 0, _, by go_num, by go_num, by omega, by omega, by omega, Lib.hid (by decide), Lib.hid (by rw [lowF_zero]; simp [cntC]), Lib.hid rfl, Lib.hid (by have := hD.out; unfold decF at this; simp [this]), H⟩
  case round =>
    clear H
    obtain ⟨i, c, y, rfl, rfl, hi, hib, hc0, hc2, hcl2, hy, hyx, H⟩ := hrel
    by_cases hlt : i < 15
    · have hiI : (i : Int) + 1 ≤ 15 := by omega
      have hci : c ≤ 32768 := by
        obtain ⟨p, hp, h2, h3⟩ := pow_pos_nat i (by omega)
        have := hc2.out
        rw [hp] at this
        omega
      by_cases hbit : i < bs.length
      · obtain ⟨b, hb⟩ : ∃ b, bs[i]? = some b := ⟨bs[i], List.getElem?_eq_getElem hbit⟩
        have ht := rtake_yes (m := 1) H hs (by omega) (by have := hbl.out; omega)
        rw [show ((1 : Nat) : Int) = 1 from rfl] at ht
        have hval : ((textBits s).drop (n + i)).take 1 = [b] := by
          rw [← List.drop_drop, hbs.out]
          have : bs.drop i = b :: bs.drop (i + 1) := by
            obtain ⟨h1, h2⟩ := List.getElem?_eq_some_iff.1 hb
            rw [List.drop_eq_getElem_cons h1, h2]
          rw [this]; rfl
        rw [hval] at ht
        have hvb : valOf [b] = bi b := by simp [valOf]
        rw [hvb] at ht
        have hy2 := hy.out
        have hdrop : bs.drop i = b :: bs.drop (i + 1) := by
          obtain ⟨h1, h2⟩ := List.getElem?_eq_some_iff.1 hb
          rw [List.drop_eq_getElem_cons h1, h2]
        rw [hdrop, show 15 - i = (15 - (i + 1)) + 1 by omega, decN] at hy2
        have hbd := bi_bd b
        have hc2' : Hid (2 * c + bi b < 2 ^ (i + 1)) := Lib.hid (by have := hc2.out; rw [Int.pow_succ]; omega)
        have hsl := symsL_length (l := l) (i + 1)
        have hcnt : cntC l (i + 1) = cntL l (i + 1) := by unfold cntC; rw [if_neg (by omega)]
        have HT := Lib.hid ht
        obtain ⟨d, hd⟩ : ∃ d, bi b = d := ⟨_, rfl⟩
        rw [hd] at hy2 hc2' hbd HT
        have hlow1 : lowF l (i + 1) ≤ 2 * c + d := by have := hcl2.out; rw [lowF_succ]; omega
        have hcode := fun s => code_at (l := l) (n := i + 1) (s := s) (c := 2 * c + d) (by omega) hlow1
        have HCODE := Lib.hid hcode
        have hw1 : IntKind.i64.wrap (2 * c) = 2 * c := IntWalk.i64_in _ ⟨by omega, by omega⟩
        have hw2 : IntKind.i64.wrap (2 * c + d) = 2 * c + d := IntWalk.i64_in _ ⟨by omega, by omega⟩
        have hw3 : IntKind.i64.wrap ((i : Int) + 1 + 1) = (i : Int) + 1 + 1 := IntWalk.i64_in _ ⟨by omega, by omega⟩
        have HY2 := Lib.hid hy2
        have hcd0 : 0 ≤ 2 * c + d := by omega
        have HREST : Hid ((symsL l (i + 1))[(2 * c + d - lowF l (i + 1)).toNat]? = none → lowF l (i + 1) + cntC l (i + 1) ≤ 2 * c + d) := Lib.hid (fun h => by
          have := List.getElem?_eq_none_iff.1 h
          omega)
        clear ht hdrop hvb hval hb hd hy hcode hy2 hcnt hsl hlow1 hcl2 hc2
        have hii : i + 1 ≤ bs.length := hbit
        clear hbit
        go_wp2_with fail
        refine HT.out.mono ?_
        rintro e w2 ⟨_, rfl, rfl, H2⟩
        clear H HT
        go_wp2_with fail
        go_loopw [12] (fun s12 wx => ∃ j : Nat, s12 = .int .i64 j ∧ j ≤ m ∧ Hid (∀ t, t < j → ¬ (l.getD t 0 = ((i + 1 : Nat) : Int) ∧ codeF l t = 2 * c + d)) ∧ Own w0 wx (RRdr rg s (n + i + 1) :: ps)) (fun s12 _ => m - (intOf s12).toNat)
        case atStart => exact ⟨0, by go_num, by omega, Lib.hid (fun t h => by omega), H2⟩
        case round =>
          clear H2
          obtain ⟨j, rfl, hj, hno, H⟩ := hrel
          by_cases hjm : j < m
          · have hjI : (j : Int) < (m : Int) := by omega
            obtain ⟨r1, r2⟩ := HRD.out _ _ H
            have hjl : j < l.length := by have := HM.out; omega
            obtain ⟨b1, o1, rfl, c0⟩ := rd_at r1 (Own.start wr) hjm
            obtain ⟨b2, o2, rfl, c1⟩ := rd_at r2 (Own.start wr) hjm
            rw [codesF_get hjl] at c1
            have hmem : Hid (l.getD j 0 = ((i + 1 : Nat) : Int) → codeF l j = 2 * c + d → (symsL l (i + 1))[(2 * c + d - lowF l (i + 1)).toNat]? = some j) := Lib.hid (fun h1 h2 => (HCODE.out j).1 ⟨hjl, h1, h2⟩)
            have hno2 : Hid (¬ (l.getD j 0 = ((i + 1 : Nat) : Int) ∧ codeF l j = 2 * c + d) → ∀ t, t < j + 1 → ¬ (l.getD t 0 = ((i + 1 : Nat) : Int) ∧ codeF l t = 2 * c + d)) := Lib.hid (fun h t ht => by
              rcases Nat.lt_or_ge t j with h1 | h1
              · exact hno.out t h1
              · have : t = j := by omega
                subst this; exact h)
            generalize l.getD j 0 = x at *
            generalize codeF l j = cj at *
            clear r1 r2
            by_cases hx : x = (i : Int) + 1
            · have hxe : (x == (i : Int) + 1) = true := by simpa using hx
              by_cases hcj : cj = 2 * c + d
              · have hce : (cj == 2 * c + d) = true := by simpa using hcj
                have hy3 := HY2.out
                rw [hmem.out (by omega) hcj] at hy3
                simp only at hy3
                subst hy3
                obtain ⟨hx1, hx2, hx3⟩ := hyx.out
                simp only at hx1 hx2 hx3
                subst hx1 hx2 hx3
                clear hx hcj
                go_wp2_with fail
                go_ret2
                exact ⟨_, rfl, rfl, by rw [← Nat.add_assoc]; exact H⟩
              · have hce : (cj == 2 * c + d) = false := by simpa using hcj
                have hno3 := Lib.hid (hno2.out (fun h => hcj h.2))
                clear hcj hx
                go_wp2_with fail
                go_roundw
                case rel => exact ⟨j + 1, by go_num, by omega, hno3, H⟩
                case measure => simp [intOf]; omega
            · have hxe : (x == (i : Int) + 1) = false := by simpa using hx
              have hno3 := Lib.hid (hno2.out (fun h => hx (by omega)))
              clear hx
              go_wp2_with fail
              go_roundw
              case rel => exact ⟨j + 1, by go_num, by omega, hno3, H⟩
              case measure => simp [intOf]; omega
          · obtain rfl : j = m := by omega
            obtain ⟨r1, r2⟩ := HRD.out _ _ H
            have hjI : ¬ (j : Int) < (j : Int) := by omega
            have hnone : (symsL l (i + 1))[(2 * c + d - lowF l (i + 1)).toNat]? = none := by
              cases hq : (symsL l (i + 1))[(2 * c + d - lowF l (i + 1)).toNat]? with
              | none => rfl
              | some t =>
                have h3 := (HCODE.out t).2 hq
                exact absurd ⟨h3.2.1, h3.2.2⟩ (hno.out t (by have := HM.out; omega))
            have hy3 := HY2.out
            rw [hnone] at hy3
            simp only at hy3
            subst hy3
            have hyx2 : Hid ((decN l (15 - (i + 1)) (i + 1) (2 * c + d) (bs.drop (i + 1))).1 = x1 ∧ (decN l (15 - (i + 1)) (i + 1) (2 * c + d) (bs.drop (i + 1))).2.1 = x2 ∧ i + 1 + (decN l (15 - (i + 1)) (i + 1) (2 * c + d) (bs.drop (i + 1))).2.2 = x3) := Lib.hid (by
              obtain ⟨h1, h2, h3⟩ := hyx.out
              exact ⟨h1, h2, by rw [← h3]; simp only; omega⟩)
            have hcl3 := Lib.hid (HREST.out hnone)
            clear hnone r1 r2
            go_wp2_with fail
            go_roundw
            case rel => exact ⟨i + 1, 2 * c + d, _, by go_num, by go_num, by omega, hii, hcd0, hc2', hcl3, Lib.hid rfl, hyx2, by rw [← Nat.add_assoc]; exact H⟩
            case measure => simp [intOf]; omega
      · have hib2 : i = bs.length := by omega
        have hy2 := hy.out
        rw [List.drop_eq_nil_of_le (by omega), show 15 - i = (15 - (i + 1)) + 1 by omega, decN] at hy2
        subst hy2
        obtain ⟨hx1, hx2, hx3⟩ := hyx.out
        simp only at hx1 hx2 hx3
        rw [Nat.add_zero] at hx3
        subst hx1 hx2 hx3
        have ht := rtake_no 1 (by omega) (by omega) H hs (by have := hbl.out; omega) (.inr (.inr (by have := hbl.out; omega)))
        have HT := Lib.hid ht
        clear ht hib2
        go_wp2_with fail
        refine HT.out.mono ?_
        rintro e w2 ⟨_, rfl, rfl, H2⟩
        clear H
        go_wp2_with fail
        go_ret2
        exact ⟨_, rfl, rfl, H2⟩
    · have hi15 : i = 15 := by omega
      have hiI : ¬ (i : Int) + 1 ≤ 15 := by omega
      have hy2 := hy.out
      rw [show 15 - i = 0 by omega, decN] at hy2
      subst hy2
      obtain ⟨hx1, hx2, hx3⟩ := hyx.out
      simp only at hx1 hx2 hx3
      rw [Nat.add_zero] at hx3
      subst hx1 hx2 hx3
      clear hi15
      go_wp2_with fail
      go_ret2
      exact ⟨_, rfl, rfl, H⟩

end Go.Proofs.Ytnebacnmbigaaaa
/- flate: bounds of symbols. No program in sight. -/
namespace Go.Proofs.Ytnebacnmbigaaaa
open Go.RowKit

theorem lenSym_bd_all : ∀ x : Fin 256, 257 ≤ (lenSym (x.1 + 3)).1 ∧ (lenSym (x.1 + 3)).1 ≤ 285 ∧ (lenSym (x.1 + 3)).2.1 ≤ 5 ∧ (lenSym (x.1 + 3)).2.2 < 2 ^ (lenSym (x.1 + 3)).2.1 := by decide +kernel
theorem lenSym_bd {n : Nat} (h : 3 ≤ n ∧ n ≤ 258) : 257 ≤ (lenSym n).1 ∧ (lenSym n).1 ≤ 285 ∧ (lenSym n).2.1 ≤ 5 ∧ (lenSym n).2.2 < 2 ^ (lenSym n).2.1 := by
  have := lenSym_bd_all ⟨n - 3, by omega⟩
  simpa [show n - 3 + 3 = n by omega] using this
def distBd (x : Nat) : Bool := decide ((distSym (x + 1)).1 ≤ 29 ∧ (distSym (x + 1)).2.1 ≤ 13 ∧ (distSym (x + 1)).2.2 < 2 ^ (distSym (x + 1)).2.1)
theorem distBd_chk : ∀ k : Fin 16, chk distBd 11 (2048 * k.1) = true := by decide +kernel
theorem distSym_bd {n : Nat} (h : 1 ≤ n ∧ n ≤ 32768) : (distSym n).1 ≤ 29 ∧ (distSym n).2.1 ≤ 13 ∧ (distSym n).2.2 < 2 ^ (distSym n).2.1 := by
  have h1 := distBd_chk ⟨(n - 1) / 2048, by omega⟩
  have := chk_all 11 _ h1 ((n - 1) % 2048) (by omega)
  rw [show 2048 * ((n - 1) / 2048) + (n - 1) % 2048 = n - 1 by omega] at this
  unfold distBd at this
  rw [show n - 1 + 1 = n by omega] at this
  exact of_decide_eq_true this
end Go.Proofs.Ytnebacnmbigaaaa
/- flate: a block's bits, plainly. No program in sight. -/
namespace Go.Proofs.Ytnebacnmbigaaaa

/-- A token's bits, by codes of lengths. -/
def tbits (L D : List Int) (t : Tok) : List Bool :=
  if t.len = 0 then cbits L t.lit.toNat
  else cbits L (lenSym t.len.toNat).1 ++ (bitsOf (lenSym t.len.toNat).2.2 (lenSym t.len.toNat).2.1 ++ (cbits D (distSym t.dist.toNat).1 ++ bitsOf (distSym t.dist.toNat).2.2 (distSym t.dist.toNat).2.1))
def toksB (L D : List Int) (l : List Tok) : List Bool := l.flatMap (tbits L D)
def bodyB (L D : List Int) (l : List Tok) : List Bool := toksB L D l ++ cbits L 256
/-- The fixed codes' lengths. -/
def fixL : List Int := List.replicate 144 8 ++ List.replicate 112 9 ++ List.replicate 24 7 ++ List.replicate 8 8
def fixD : List Int := List.replicate 32 5
def headB (last : Bool) (kind : Int) : List Bool := last :: bitsOf kind 2

/-- How often each symbol comes. -/
def litS (t : Tok) : Int := if t.len = 0 then t.lit else ((lenSym t.len.toNat).1 : Int)
def distS (t : Tok) : Int := ((distSym t.dist.toNat).1 : Int)
def litFq (l : List Tok) : List Int := bumpF ((zerosF 286).set 256 1) (l.map litS)
def distFq (l : List Tok) : List Int := bumpF (zerosF 30) ((l.filter fun t => decide (t.len ≠ 0)).map distS)
/-- Without the zeros behind the last one, at least so many. -/
def trimK (l : List Int) (least : Nat) : Nat → Nat
  | 0 => 0
  | k + 1 => if least < k + 1 ∧ l.getD k 0 = 0 then trimK l least k else k + 1
def trimF (l : List Int) (least : Nat) : List Int := l.take (trimK l least l.length)
/-- Lengths, as runs: symbol, how many bits more, these. -/
structure Run where
  sym : Int
  n : Int
  v : Int
def sameK (x : Int) : List Int → Nat
  | [] => 0
  | y :: t => if y = x then sameK x t + 1 else 0
def runsN : Nat → List Int → List Run
  | 0, _ => []
  | _ + 1, [] => []
  | f + 1, x :: t =>
    if x = 0 ∧ 10 < sameK x t + 1 then ⟨18, 7, (min (sameK x t + 1) 138 : Nat) - 11⟩ :: runsN f ((x :: t).drop (min (sameK x t + 1) 138))
    else if x = 0 ∧ 2 < sameK x t + 1 then ⟨17, 3, (sameK x t + 1 : Nat) - 3⟩ :: runsN f ((x :: t).drop (sameK x t + 1))
    else if 3 < sameK x t + 1 then ⟨x, 0, 0⟩ :: ⟨16, 2, (min (sameK x t + 1) 7 : Nat) - 4⟩ :: runsN f ((x :: t).drop (min (sameK x t + 1) 7))
    else ⟨x, 0, 0⟩ :: runsN f t
def runsF (l : List Int) : List Run := runsN l.length l
/-- The order in which the lengths of lengths' codes stand. -/
def ordF : List Nat := [16, 17, 18, 0, 8, 7, 9, 6, 10, 5, 11, 4, 12, 3, 13, 2, 14, 1, 15]
def richL (l : List Tok) : List Int := trimF (resF (litFq l) 15) 257
def richD (l : List Tok) : List Int := trimF (resF (distFq l) 15) 1
def richR (l : List Tok) : List Run := runsF (richL l ++ richD l)
def runFq (rs : List Run) : List Int := bumpF (zerosF 19) (rs.map Run.sym)
def runL (rs : List Run) : List Int := resF (runFq rs) 7
def sortedF (ls : List Int) : List Int := trimF (ordF.map fun s => ls.getD s 0) 4
def runB (ls : List Int) (r : Run) : List Bool := cbits ls r.sym.toNat ++ bitsOf r.v r.n.toNat
def runsB (ls : List Int) (rs : List Run) : List Bool := rs.flatMap (runB ls)
def lensB (l : List Int) : List Bool := l.flatMap fun n => bitsOf n 3
def sizesB (a b c : Nat) : List Bool := bitsOf ((a : Int) - 257) 5 ++ (bitsOf ((b : Int) - 1) 5 ++ bitsOf ((c : Int) - 4) 4)
/-- What stands behind a block's beginning. -/
def richB (l : List Tok) : List Bool :=
  sizesB (richL l).length (richD l).length (sortedF (runL (richR l))).length ++ (lensB (sortedF (runL (richR l))) ++ (runsB (runL (richR l)) (richR l) ++ bodyB (richL l) (richD l) l))
def blockB (l : List Tok) (kind : Int) (last : Bool) : List Bool := if kind = 1 then headB last 1 ++ bodyB fixL fixD l else headB last 2 ++ richB l
/-- A text as it is. -/
def storeB : Nat → ByteArray → List Bool → List Bool
  | 0, _, bs => bs
  | f + 1, t, bs => if t.size ≤ 65535
      then aligned (bs ++ headB true 0) ++ (bitsOf (t.size : Int) 16 ++ (bitsOf (65535 - (t.size : Int)) 16 ++ textBits t))
      else storeB f (t.extract 65535 t.size) (aligned (bs ++ headB false 0) ++ (bitsOf 65535 16 ++ (bitsOf 0 16 ++ textBits (t.extract 0 65535))))
def storeF (s : ByteArray) : List Bool := storeB (s.size + 1) s []

/-- What a token of a text may be. -/
def TokOk (t : Tok) : Prop := (t.len = 0 ∧ 0 ≤ t.lit ∧ t.lit < 256) ∨ (3 ≤ t.len ∧ t.len ≤ 258 ∧ 1 ≤ t.dist ∧ t.dist ≤ 32768)
theorem may_ok {t : Tok} {n : Nat} (h : may t n = true) : TokOk t := by
  unfold may at h
  unfold TokOk
  split at h
  · next h0 => have := of_decide_eq_true h; omega
  · have := of_decide_eq_true h; omega

/-! ### symbols -/

/-! ### how long -/
theorem flat_le {α : Type} {f : α → List Bool} {b : Nat} : ∀ (l : List α), (∀ x ∈ l, (f x).length ≤ b) → (l.flatMap f).length ≤ b * l.length
  | [], _ => by simp
  | x :: t, h => by
    have h1 := flat_le t fun y hy => h y (by simp [hy])
    have h2 := h x (by simp)
    rw [List.flatMap_cons, List.length_append, List.length_cons, Nat.mul_succ]
    omega
theorem getD_le {l : List Int} (hl : ∀ x ∈ l, 0 ≤ x ∧ x ≤ 15) (s : Nat) : 0 ≤ l.getD s 0 ∧ l.getD s 0 ≤ 15 := by
  by_cases h : s < l.length
  · exact hl _ (mem_getD2 h)
  · rw [List.getD_eq_getElem?_getD, List.getElem?_eq_none (by omega)]; simp
theorem cbits_le {l : List Int} (hl : ∀ x ∈ l, 0 ≤ x ∧ x ≤ 15) (s : Nat) : (cbits l s).length ≤ 15 := by
  rw [cbits_length]; have := getD_le hl s; omega
theorem tbits_le {L D : List Int} (hL : ∀ x ∈ L, 0 ≤ x ∧ x ≤ 15) (hD : ∀ x ∈ D, 0 ≤ x ∧ x ≤ 15) {t : Tok} (ht : TokOk t) : (tbits L D t).length ≤ 48 := by
  unfold tbits
  split
  · have := cbits_le hL t.lit.toNat; omega
  · next h =>
    have h1 := cbits_le hL (lenSym t.len.toNat).1
    have h2 := cbits_le hD (distSym t.dist.toNat).1
    have h3 : 3 ≤ t.len ∧ t.len ≤ 258 ∧ 1 ≤ t.dist ∧ t.dist ≤ 32768 := by rcases ht with h4 | h4 <;> omega
    have h4 := lenSym_bd (n := t.len.toNat) (by omega)
    have h5 := distSym_bd (n := t.dist.toNat) (by omega)
    rw [List.length_append, List.length_append, List.length_append, bitsOf_length, bitsOf_length]
    omega
theorem toksB_le {L D : List Int} (hL : ∀ x ∈ L, 0 ≤ x ∧ x ≤ 15) (hD : ∀ x ∈ D, 0 ≤ x ∧ x ≤ 15) {l : List Tok} (ht : ∀ t ∈ l, TokOk t) : (toksB L D l).length ≤ 48 * l.length :=
  flat_le l fun t h => tbits_le hL hD (ht t h)
theorem bodyB_le {L D : List Int} (hL : ∀ x ∈ L, 0 ≤ x ∧ x ≤ 15) (hD : ∀ x ∈ D, 0 ≤ x ∧ x ≤ 15) {l : List Tok} (ht : ∀ t ∈ l, TokOk t) : (bodyB L D l).length ≤ 48 * l.length + 15 := by
  have h1 := toksB_le hL hD ht
  have h2 := cbits_le hL 256
  unfold bodyB
  rw [List.length_append]
  omega
theorem fixL_ok : fixL.length = 288 ∧ cerrF fixL = 0 ∧ terrF fixL = 0 := by decide +kernel
theorem fixD_ok : fixD.length = 32 ∧ cerrF fixD = 0 ∧ terrF fixD = 0 := by decide +kernel
theorem fixL_bd : ∀ x ∈ fixL, 0 ≤ x ∧ x ≤ 15 := by decide +kernel
theorem fixD_bd : ∀ x ∈ fixD, 0 ≤ x ∧ x ≤ 15 := by decide +kernel
theorem fixL_pos : ∀ s : Fin 288, 0 < fixL.getD s.1 0 := by decide +kernel
theorem fixD_pos : ∀ s : Fin 32, 0 < fixD.getD s.1 0 := by decide +kernel
end Go.Proofs.Ytnebacnmbigaaaa
/- flate: the walks of what tells symbols. -/
namespace Go.Proofs.Ytnebacnmbigaaaa
open Go.RowKit

theorem exN_le (st n : Nat) : ∀ f e, exN st n f e ≤ e + f := by
  intro f
  induction f with
  | zero => intro e; simp [exN]
  | succ f ih =>
    intro e
    rw [exN]
    split
    · have := ih (e + 1); omega
    · omega
/-- A number below 2^20 has fewer than 20 bits more. -/
theorem ex_stop {st n e : Nat} (hn : n < 1048576) (he : 2 ^ (st + 1) ≤ n / 2 ^ e) : e < 20 := by
  rcases Nat.lt_or_ge e 20 with h | h
  · exact h
  · have h1 : 2 ^ 20 ≤ 2 ^ e := Nat.pow_le_pow_right (by omega) h
    have : n / 2 ^ e = 0 := Nat.div_eq_of_lt (by have : (2 : Nat) ^ 20 = 1048576 := rfl; omega)
    have h2 : 0 < 2 ^ (st + 1) := Nat.pow_pos (by omega)
    omega

theorem len_sym_le : ∀ x : Fin 256, (lenSym (x.1 + 3)).1 ≤ 285 := by decide +kernel

set_option maxRecDepth 100000 in
theorem band_any (n st : Nat) (hn : n < 1048576) (hst : st = 1 ∨ st = 2) (w : World) :
    Calls Try.prog 45 #[.int .i64 n, .int .i64 st] w (Ret fun r w' => r = .tuple #[.int .i64 (bandF st n).1, .int .i64 (bandF st n).2.1, .int .i64 (bandF st n).2.2] ∧ Own w w' []) := by
  have H := Own.start w
  obtain ⟨x, hx⟩ : ∃ x, Hid (exF st n = x) := ⟨_, rfl⟩
  obtain ⟨b1, b2, b3, hB⟩ : ∃ b1 b2 b3, Hid (bandF st n = (b1, b2, b3)) := ⟨_, _, _, rfl⟩
  have hP : Hid (b1 = x * 2 ^ st + n / 2 ^ x ∧ b2 = x ∧ b3 = n % 2 ^ x) := Lib.hid (by have h := hB.out; unfold bandF at h; rw [hx.out] at h; simp only [Prod.mk.injEq] at h; exact ⟨h.1.symm, h.2.1.symm, h.2.2.symm⟩)
  rw [hB.out]
  obtain ⟨c, hc⟩ : ∃ c : Int, Hid ((2 : Int) * 2 ^ st = c) := ⟨_, rfl⟩
  have hcw : IntKind.i64.wrap ((2 : Int) * 2 ^ st) = c := by rw [hc.out, ← hc.out]; rcases hst with rfl | rfl <;> rfl
  have hcn : Hid (c = ((2 ^ (st + 1) : Nat) : Int)) := Lib.hid (by rw [← hc.out]; rcases hst with rfl | rfl <;> rfl)
  have hst1 : (st : Int) < 64 := by omega
  have hst0 : ¬ (st : Int) < 0 := by omega
  go_enter Try.func45, Try.ntmps45
  go_wp2_with fail
  go_loopw [7] (fun s7 wx => ∃ e : Nat, s7 = .int .i64 e ∧ e ≤ 20 ∧ Hid (exN st n (64 - e) e = x) ∧ Own w wx []) (fun s7 _ => 20 - (intOf s7).toNat)
  case atStart => exact ⟨0, by go_num, by omega, Lib.hid hx.out, H⟩
  case round =>
    clear H
    obtain ⟨e, rfl, he, hex, H⟩ := hrel
    obtain ⟨q, hq⟩ : ∃ q : Nat, Hid (n / 2 ^ e = q) := ⟨_, rfl⟩
    have hqi : (n : Int) / 2 ^ e = (q : Int) := by
      rw [← hq.out, Int.natCast_ediv, Int.natCast_pow]; rfl
    have heI : (e : Int) < 64 := by omega
    go_upto_region 2 with (fail)
    refine wp_region_calm (fun w1 => Own w w1 []) 5 (by kernel_rfl) (by kernel_rfl) H.drew ?_
    simp only [List.take_succ_cons, List.take_zero, List.drop_succ_cons, List.drop_zero]
    repeat
      first
      | (refine calm_value (v := ?_) (by decide) rfl (fun σ w1 hS => ?_) ?_
         rotate_left
         · skip
           first | (go_simp; rfl) | rfl
         simp only [Act.put, List.setIfInBounds_toArray, List.set_cons_zero, List.set_cons_succ])
      | (refine calm_skip (by decide) rfl ?_
         simp only [Act.put, List.setIfInBounds_toArray, List.set_cons_zero, List.set_cons_succ])
    refine calm_nil ?_
    intro wd HD
    clear H
    have hex2 := hex.out
    rw [show 64 - e = (64 - (e + 1)) + 1 by omega, exN, hq.out] at hex2
    by_cases hlt : 2 ^ (st + 1) ≤ q
    · have hcq : c ≤ (q : Int) := by rw [hcn.out]; exact Int.ofNat_le.2 hlt
      rw [if_pos hlt] at hex2
      have he20 := ex_stop hn (by rw [hq.out]; exact hlt)
      have HEX := Lib.hid hex2
      clear hex2 hex hlt
      go_wp2_with fail
      go_roundw
      case rel => exact ⟨e + 1, by go_num, by omega, HEX, HD⟩
      case measure => simp [intOf]; omega
    · have hcq : ¬ c ≤ (q : Int) := by rw [hcn.out]; exact fun h => hlt (Int.ofNat_le.1 h)
      rw [if_neg hlt] at hex2
      subst hex2
      clear hex hlt
      obtain ⟨r, hr⟩ : ∃ r : Nat, Hid (n % 2 ^ e = r) := ⟨_, rfl⟩
      have hri : bits .and .i64 (n : Int) ((2 : Int) ^ e - 1) = (r : Int) := by
        have h1 := i64_and_mask (n : Int) e (by omega)
        have h2 : ((2 ^ e - 1 : Nat) : Int) = (2 : Int) ^ e - 1 := by
          have : 0 < 2 ^ e := Nat.pow_pos (by omega)
          rw [Int.natCast_sub (by omega), Int.natCast_pow]; rfl
        rw [h2] at h1
        rw [h1, ← hr.out, Int.natCast_emod]
      obtain ⟨p, hp⟩ : ∃ p : Nat, Hid (e * 2 ^ st = p) := ⟨_, rfl⟩
      have hp80 : p ≤ 80 := by
        rw [← hp.out]
        rcases hst with rfl | rfl <;> omega
      have hpi : (e : Int) * 2 ^ st = (p : Int) := by rw [← hp.out, Int.natCast_mul, Int.natCast_pow]; rfl
      have hq20 : q ≤ 1048576 := by rw [← hq.out]; exact Nat.le_trans (Nat.div_le_self _ _) (by omega)
      have hpw : IntKind.i64.wrap ((p : Int)) = (p : Int) := IntWalk.i64_in _ ⟨by omega, by omega⟩
      have hpq : IntKind.i64.wrap ((p : Int) + (q : Int)) = ((p + q : Nat) : Int) := by rw [Int.natCast_add]; exact IntWalk.i64_in _ ⟨by omega, by omega⟩
      have h2e : IntKind.i64.wrap ((2 : Int) ^ e) = (2 : Int) ^ e ∧ IntKind.i64.wrap ((2 : Int) ^ e - 1) = (2 : Int) ^ e - 1 := by
        obtain ⟨m, hm, h1, h2⟩ : ∃ m : Nat, (2 : Int) ^ e = m ∧ 1 ≤ m ∧ m ≤ 2 ^ 20 := ⟨2 ^ e, by rw [Int.natCast_pow]; rfl, Nat.pow_pos (by omega), Nat.pow_le_pow_right (by omega) he⟩
        rw [hm]
        exact ⟨IntWalk.i64_in _ ⟨by omega, by omega⟩, IntWalk.i64_in _ ⟨by omega, by omega⟩⟩
      obtain ⟨h2e1, h2e2⟩ := h2e
      have e1 : Hid (b1 = p + q ∧ b2 = e ∧ b3 = r) := Lib.hid (by rw [← hp.out, ← hq.out, ← hr.out]; exact hP.out)
      clear hP hB
      go_upto_region 4 with (fail)
      refine wp_region_calm (fun w1 => Own w w1 []) 15 (by kernel_rfl) (by kernel_rfl) HD.drew ?_
      simp only [List.take_succ_cons, List.take_zero, List.drop_succ_cons, List.drop_zero]
      repeat
        first
        | (refine calm_value (v := ?_) (by decide) rfl (fun σ w1 hS => ?_) ?_
           rotate_left
           · skip
             first | (go_simp; rfl) | rfl
           simp only [Act.put, List.setIfInBounds_toArray, List.set_cons_zero, List.set_cons_succ])
        | (refine calm_skip (by decide) rfl ?_
           simp only [Act.put, List.setIfInBounds_toArray, List.set_cons_zero, List.set_cons_succ])
      refine calm_nil ?_
      intro we HE
      clear HD
      go_wp2_with fail
      go_ret3
      exact ⟨_, rfl, by rw [e1.out.1, e1.out.2.1, e1.out.2.2]; rfl, HE⟩

theorem length_any (n : Nat) (hn : 3 ≤ n) (hn2 : n ≤ 258) (w : World) :
    Calls Try.prog 20 #[.int .i64 n] w (Ret fun r w' => r = .tuple #[.int .i64 (lenSym n).1, .int .i64 (lenSym n).2.1, .int .i64 (lenSym n).2.2] ∧ Own w w' []) := by
  have H := Own.start w
  obtain ⟨b1, b2, b3, hB⟩ : ∃ b1 b2 b3, Hid (lenSym n = (b1, b2, b3)) := ⟨_, _, _, rfl⟩
  rw [hB.out]
  by_cases h1 : n = 258
  · subst h1
    have hB2 : (285, 0, 0) = (b1, b2, b3) := hB.out
    cases hB2
    go_enter Try.func20, Try.ntmps20
    go_wp2_with fail
    go_ret3
    exact ⟨_, rfl, rfl, H⟩
  · have h1b : ((n : Int) == 258) = false := by simp; omega
    by_cases h2 : n < 11
    · have h2I : (n : Int) < 11 := by omega
      have hB2 : Hid (254 + n = b1 ∧ 0 = b2 ∧ 0 = b3) := Lib.hid (by have h := hB.out; unfold lenSym at h; rw [if_neg h1, if_pos h2] at h; simp only [Prod.mk.injEq] at h; exact h)
      have hw : IntKind.i64.wrap (254 + (n : Int)) = 254 + (n : Int) := IntWalk.i64_in _ ⟨by omega, by omega⟩
      clear hB h1
      go_enter Try.func20, Try.ntmps20
      go_wp2_with fail
      go_ret3
      exact ⟨_, rfl, by rw [← hB2.out.1, ← hB2.out.2.1, ← hB2.out.2.2]; rfl, H⟩
    · have h2I : ¬ (n : Int) < 11 := by omega
      obtain ⟨c1, c2, c3, hC⟩ : ∃ c1 c2 c3, Hid (bandF 2 (n - 3) = (c1, c2, c3)) := ⟨_, _, _, rfl⟩
      have hB2 : Hid (257 + c1 = b1 ∧ c2 = b2 ∧ c3 = b3) := Lib.hid (by have h := hB.out; unfold lenSym at h; rw [if_neg h1, if_neg h2, hC.out] at h; simp only [Prod.mk.injEq] at h; exact h)
      have hc := band_any (n - 3) 2 (by omega) (.inr rfl)
      rw [hC.out] at hc
      rw [show ((n - 3 : Nat) : Int) = (n : Int) - 3 by omega, show ((2 : Nat) : Int) = 2 from rfl] at hc
      have HC := Lib.hid hc
      have hc1 : c1 ≤ 300 := by
        have h := hB2.out.1
        have : b1 ≤ 285 := by
          have h3 := len_sym_le ⟨n - 3, by omega⟩
          simp only [show n - 3 + 3 = n by omega, hB.out] at h3
          exact h3
        omega
      have hw : IntKind.i64.wrap ((c1 : Int) + 257) = (c1 : Int) + 257 := IntWalk.i64_in _ ⟨by omega, by omega⟩
      clear hB h1 hc
      go_enter Try.func20, Try.ntmps20
      go_wp2_with fail
      refine (HC.out _).mono ?_
      rintro e w2 ⟨_, rfl, rfl, H2⟩
      have H := H.join H2
      go_wp2_with fail
      go_ret3
      exact ⟨_, rfl, by rw [← hB2.out.1, ← hB2.out.2.1, ← hB2.out.2.2]; rfl, H⟩
theorem dist_any (n : Nat) (hn : 1 ≤ n) (hn2 : n ≤ 32768) (w : World) :
    Calls Try.prog 21 #[.int .i64 n] w (Ret fun r w' => r = .tuple #[.int .i64 (distSym n).1, .int .i64 (distSym n).2.1, .int .i64 (distSym n).2.2] ∧ Own w w' []) := by
  have H := Own.start w
  obtain ⟨b1, b2, b3, hB⟩ : ∃ b1 b2 b3, Hid (distSym n = (b1, b2, b3)) := ⟨_, _, _, rfl⟩
  rw [hB.out]
  by_cases h2 : n < 5
  · have h2I : (n : Int) < 5 := by omega
    have hB2 : Hid (n - 1 = b1 ∧ 0 = b2 ∧ 0 = b3) := Lib.hid (by have h := hB.out; unfold distSym at h; rw [if_pos h2] at h; simp only [Prod.mk.injEq] at h; exact h)
    have hB3 : Hid ((b1 : Int) = (n : Int) - 1) := Lib.hid (by have := hB2.out.1; omega)
    clear hB
    go_enter Try.func21, Try.ntmps21
    go_wp2_with fail
    go_ret3
    exact ⟨_, rfl, by rw [hB3.out, ← hB2.out.2.1, ← hB2.out.2.2]; rfl, H⟩
  · have h2I : ¬ (n : Int) < 5 := by omega
    have hc := band_any (n - 1) 1 (by omega) (.inl rfl)
    have hd : distSym n = bandF 1 (n - 1) := by unfold distSym; rw [if_neg h2]
    rw [← hd, hB.out, show ((n - 1 : Nat) : Int) = (n : Int) - 1 by omega, show ((1 : Nat) : Int) = 1 from rfl] at hc
    have HC := Lib.hid hc
    clear hB hc hd
    go_enter Try.func21, Try.ntmps21
    go_wp2_with fail
    refine (HC.out _).mono ?_
    rintro e w2 ⟨_, rfl, rfl, H2⟩
    have H := H.join H2
    go_wp2_with fail
    go_ret3
    exact ⟨_, rfl, rfl, H⟩
end Go.Proofs.Ytnebacnmbigaaaa
/- Bits: Writer.Put. -/
namespace Go.Proofs.Ytnebacnmbigaaaa
open Go.RowKit

set_option maxHeartbeats 400000 in
theorem put_any {w0 w : World} {ps : List Piece} {g : Nat} {bs : List Bool} (v n : Int) (hv : -9223372036854775808 ≤ v ∧ v ≤ 9223372036854775807) (hn : -9223372036854775808 ≤ n ∧ n ≤ 9223372036854775807) (H : Own w0 w (Wtr g bs :: ps)) (hl : bs.length ≤ 35184372088000) :
    Calls Try.prog 13 #[.pointer (some ⟨g, 0, none⟩), .int .i64 v, .int .i64 n] w (Ret fun _ w' => Own w0 w' (Wtr g (bs ++ bitsOf v (cut n)) :: ps)) := by
  obtain ⟨hv1, hv2⟩ := hv
  obtain ⟨hn1, hn2⟩ := hn
  obtain ⟨m, hm, hm62⟩ : ∃ m : Nat, Hid (cut n = m) ∧ m ≤ 62 := ⟨_, Lib.hid rfl, by unfold cut; omega⟩
  have hmn : Hid (min (max n 0) 62 = (m : Int)) := Lib.hid (by rw [← hm.out]; unfold cut; omega)
  go_enter Try.func13, Try.ntmps13
  go_upto_region 1 with (fail)
  go_cut [11, 12] (fun s11 s12 wx => wx = w ∧ s11 = .int .i64 m ∧ s12 = .int .i64 0)
  case first =>
    go_wp2
    all_goals go_meet
    all_goals exact ⟨rfl, val_int (by have := hmn.out; omega), rfl⟩
  case rest =>
    obtain ⟨rfl, rfl, rfl⟩ := hcut
    go_wp2_with fail
    go_loopw [12] (fun i wx => ∃ k : Nat, k ≤ m ∧ i = .int .i64 k ∧ Own w0 wx (Wtr g (bs ++ bitsOf v k) :: ps)) (fun i _ => m - (intOf i).toNat)
    case atStart => exact ⟨0, Nat.zero_le _, rfl, by simpa [bitsOf] using H⟩
    case round =>
      clear H
      obtain ⟨k, hk, rfl, H⟩ := hrel
      by_cases hlt : k < m
      · obtain ⟨b, hbb⟩ : ∃ b, Hid (bitOf v k = b) := ⟨_, rfl⟩
        have hbit : bits .and .i64 (v / 2 ^ k) 1 = bi b := by rw [i64_and1, ← hbb.out, bi_bitOf]
        go_wp2_with fail
        refine (bit_any b H (by simp [bitsOf_length]; omega)).mono ?_
        rintro e w2 ⟨_, rfl, h2⟩
        replace H : Own w0 w2 (Wtr g (bs ++ bitsOf v (k + 1)) :: ps) := by rw [bitsOf_succ, ← List.append_assoc, hbb.out]; exact h2
        clear h2
        go_wp2
        go_roundw
        case rel => exact ⟨k + 1, by omega, by go_num, H⟩
        case measure => simp [intOf]; omega
      · obtain rfl : k = m := by omega
        go_wp2
        go_end0
        rw [hm.out]
        exact ⟨_, rfl, H⟩
end Go.Proofs.Ytnebacnmbigaaaa
/- Bits: Writer.Code. -/
namespace Go.Proofs.Ytnebacnmbigaaaa
open Go.RowKit

set_option maxHeartbeats 400000 in
theorem code_any {w0 w : World} {ps : List Piece} {g : Nat} {bs : List Bool} (v n : Int) (hv : -9223372036854775808 ≤ v ∧ v ≤ 9223372036854775807) (hn : -9223372036854775808 ≤ n ∧ n ≤ 9223372036854775807) (H : Own w0 w (Wtr g bs :: ps)) (hl : bs.length ≤ 35184372088000) :
    Calls Try.prog 19 #[.pointer (some ⟨g, 0, none⟩), .int .i64 v, .int .i64 n] w (Ret fun _ w' => Own w0 w' (Wtr g (bs ++ (bitsOf v (cut n)).reverse) :: ps)) := by
  obtain ⟨hv1, hv2⟩ := hv
  obtain ⟨hn1, hn2⟩ := hn
  obtain ⟨m, hm, hm62⟩ : ∃ m : Nat, Hid (cut n = m) ∧ m ≤ 62 := ⟨_, Lib.hid rfl, by unfold cut; omega⟩
  have hmn : Hid (min (max n 0) 62 = (m : Int)) := Lib.hid (by rw [← hm.out]; unfold cut; omega)
  go_enter Try.func19, Try.ntmps19
  go_upto_region 1 with (fail)
  go_cut [6] (fun s6 wx => wx = w ∧ s6 = .int .i64 ((m : Int) - 1))
  case first =>
    go_wp2
    all_goals go_meet
    all_goals exact ⟨rfl, val_int (by have := hmn.out; omega)⟩
  case rest =>
    obtain ⟨rfl, rfl⟩ := hcut
    go_wp2_with fail
    go_loopw [6] (fun i wx => ∃ k : Nat, ∃ d : Int, k ≤ m ∧ i = .int .i64 d ∧ Hid (d = (m : Int) - 1 - k) ∧ Own w0 wx (Wtr g (bs ++ (bitsOf v m).reverse.take k) :: ps)) (fun i _ => (intOf i + 1).toNat)
    case atStart => exact ⟨0, _, Nat.zero_le _, rfl, Lib.hid (by omega), by simpa using H⟩
    case round =>
      clear H
      obtain ⟨k, d, hk, rfl, hd, H⟩ := hrel
      by_cases hlt : k < m
      · obtain ⟨j, hj⟩ : ∃ j, Hid (m - 1 - k = j) := ⟨_, rfl⟩
        obtain rfl : d = (j : Int) := by have := hd.out; have := hj.out; omega
        have hj62 : j < 62 := by have := hj.out; omega
        obtain ⟨b, hbb⟩ : ∃ b, Hid (bitOf v j = b) := ⟨_, rfl⟩
        have hbit : bits .and .i64 (v / 2 ^ j) 1 = bi b := by rw [i64_and1, ← hbb.out, bi_bitOf]
        go_wp2_with fail
        refine (bit_any b H (by simp [bitsOf_length]; omega)).mono ?_
        rintro e w2 ⟨_, rfl, h2⟩
        replace H : Own w0 w2 (Wtr g (bs ++ (bitsOf v m).reverse.take (k + 1)) :: ps) := by rw [codeBits_take v m k hlt, ← List.append_assoc, hj.out, hbb.out]; exact h2
        clear h2
        go_wp2
        go_roundw
        case rel => exact ⟨k + 1, _, by omega, rfl, Lib.hid (by have := hd.out; omega), H⟩
        case measure => simp [intOf]
      · have hd0 : d < 0 := by have := hd.out; omega
        obtain rfl : k = m := by omega
        rw [List.take_of_length_le (by simp [bitsOf_length])] at H
        go_wp2
        go_end0
        rw [hm.out]
        exact ⟨_, rfl, H⟩
end Go.Proofs.Ytnebacnmbigaaaa
/- flate: the walks of head, made, put. -/
namespace Go.Proofs.Ytnebacnmbigaaaa
open Go.RowKit

/-- What reads so wherever ps is owned. -/
def Reads (w0 : World) (ps : List Piece) (size : Nat) (v : Value) (n : Nat) (xs : List Value) : Prop := ∀ w', Own w0 w' ps → Rd w' size v n xs
theorem Reads.mono {w0 : World} {ps qs : List Piece} {size n : Nat} {v : Value} {xs : List Value} (h : Reads w0 ps size v n xs) (hk : ∀ w', Own w0 w' qs → Own w0 w' ps) : Reads w0 qs size v n xs := fun w' h' => h w' (hk w' h')
/-- A code: lengths, and codes, that are read. -/
structure CodOk (w0 : World) (ps : List Piece) (v u : Value) (L : List Int) : Prop where
  len : Reads w0 ps 1 v L.length (nums L)
  cod : Reads w0 ps 1 u L.length (nums (codesF L))
  all : ∀ x ∈ L, 0 ≤ x ∧ x ≤ 15
  wt : sumF wtF L ≤ 2 ^ 15
  few : L.length ≤ 320
theorem CodOk.mono {w0 : World} {ps qs : List Piece} {v u : Value} {L : List Int} (h : CodOk w0 ps v u L) (hk : ∀ w', Own w0 w' qs → Own w0 w' ps) : CodOk w0 qs v u L := ⟨h.len.mono hk, h.cod.mono hk, h.all, h.wt, h.few⟩
theorem cut_eq {x : Int} (h0 : 0 ≤ x) (h1 : x ≤ 62) : cut x = x.toNat := by unfold cut; omega
theorem CodOk.bd {w0 : World} {ps : List Piece} {v u : Value} {L : List Int} (h : CodOk w0 ps v u L) {s : Nat} (hs : s < L.length) : 0 ≤ L.getD s 0 ∧ L.getD s 0 ≤ 15 ∧ 0 ≤ codeF L s ∧ codeF L s ≤ 32768 := by
  have h1 := h.all _ (mem_getD2 hs)
  have h2 := code_nonneg (l := L) s
  refine ⟨h1.1, h1.2, h2, ?_⟩
  by_cases h0 : 0 < L.getD s 0
  · have h3 := code_fits h.all h.wt hs h0
    obtain ⟨p, hp, h4, h5⟩ := pow_pos_nat (L.getD s 0).toNat (by omega)
    rw [hp] at h3
    omega
  · unfold codeF; rw [if_neg h0]; omega

theorem head_any {w0 w : World} {ps : List Piece} {g : Nat} {bs : List Bool} (last : Bool) (kind : Int) (hk : 0 ≤ kind ∧ kind ≤ 3) (H : Own w0 w (Wtr g bs :: ps)) (hl : bs.length ≤ 35184372087000) :
    Calls Try.prog 46 #[.pointer (some ⟨g, 0, none⟩), .bool last, .int .i64 kind] w (Ret fun _ w' => Own w0 w' (Wtr g (bs ++ headB last kind) :: ps)) := by
  have h1 : ∀ (b : Bool), bitsOf (bi b) (cut 1) = [b] := by intro b; cases b <;> decide
  have h2 := put_any (w := w) (bi last) 1 (by cases last <;> decide) (by omega) H (by omega)
  rw [h1] at h2
  have h3 := fun w1 (H : Own w0 w1 (Wtr g (bs ++ [last]) :: ps)) => put_any kind 2 (by omega) (by omega) H (by rw [List.length_append]; simp; omega)
  rw [show cut 2 = 2 from rfl, List.append_assoc] at h3
  have H2 := Lib.hid h2
  have H3 := Lib.hid h3
  clear h1 h2 h3 H
  cases last
  all_goals
    simp only [bi, if_true, if_false, Bool.false_eq_true] at H2
    go_enter Try.func46, Try.ntmps46
    go_wp2_with fail
    refine H2.out.mono ?_
    rintro e w1 ⟨_, rfl, H⟩
    go_wp2_with fail
    refine (H3.out _ H).mono ?_
    rintro e w2 ⟨_, rfl, H⟩
    go_wp2_with fail
    go_end0
    exact ⟨_, rfl, H⟩

theorem results_cell1 {P : Program} {fn : Func} {p : Tmp} {ty : TypeId} (h : fn.results = #[.cell p ty]) (tmps : Array Value) (w : World) (g : Nat) (v : Value)
    (hp : tmps.getD p undef = .pointer (some ⟨g, 0, none⟩)) (hl : (loadVar ty ⟨g, 0, none⟩).run P w = .ok v w) : (results fn tmps).run P w = .ok v w := by
  have hp' : tmps[p]?.getD undef = .pointer (some ⟨g, 0, none⟩) := by simpa using hp
  simp only [results, h]
  simp [hp', asAddr, hl]
set_option maxRecDepth 100000 in
theorem made_any {w : World} {v : Value} {n : Nat} {L : List Int} (hr : Rd w 1 v n (nums L)) (hn : n ≤ 1000000) (hc : cerrF L = 0) :
    Calls Try.prog 48 #[v] w (Ret fun r w' => ∃ u, r = .agg #[v, u] ∧ Own w w' [slc 3 1 u L.length (nums (codesF L))]) := by
  have hl := Lib.hid (rd_len hr)
  rw [hl.out]
  obtain ⟨a, c, rfl, hc1, hc2⟩ := hr.shape
  have H := (Own.start w).alloc (.cells #[.slice none 0 0, .slice none 0 0] 92)
  have hcd := codes_any (hr.old H) hn
  have hcr : cresF L = codesF L := by unfold cresF; rw [if_pos hc]
  rw [hc, hcr, codesF_length, hl.out] at hcd
  have HC := Lib.hid hcd
  clear hr hc hcd hcr
  go_enter Try.func48, Try.ntmps48
  go_wp2_with fail
  generalize w.alloc _ = w1 at *
  generalize w.heap.size = g at *
  refine HC.out.mono ?_
  rintro e w2 ⟨_, rfl, u, rfl, H2⟩
  have H := (H.join H2).swap
  obtain ⟨a2, c2, rfl, -⟩ := (H.front 1 rfl).rd.shape
  clear H2
  have H : Own w w2 (blk g (.cells #[.slice none 0 0, .slice none 0 0] 92) :: [slc 3 1 (.slice a2 n c2) n (nums (codesF L))]) := H
  go_wp2_with (refine wpList_store_agg (vs := [.slice a n c, .slice a2 n c2]) rfl _ _ rfl rfl H rfl (by kernel_rfl) (by simp) (by simp [Value.oneCell']) rfl ?_; clear H; intro w5 H)
  have c0 := H.cells
  have hld : (loadVar 92 ⟨g, 0, none⟩).run Try.prog w5 = .ok (.agg #[.slice a n c, .slice a2 n c2]) w5 := by
    clear HC
    go_simp
  refine bodyPost_ret (results_cell1 rfl _ _ g _ rfl hld) rfl ?_
  exact ⟨_, rfl, _, rfl, H.drop⟩
set_option maxRecDepth 100000 in
set_option maxHeartbeats 1600000 in
theorem cput_any {w0 w : World} {ps : List Piece} {g s : Nat} {bs : List Bool} {v u : Value} {L : List Int} (hc : CodOk w0 ps v u L) (hs : s < L.length) (H : Own w0 w (Wtr g bs :: ps)) (hl : bs.length ≤ 35184372087000) :
    Calls Try.prog 69 #[.agg #[v, u], .pointer (some ⟨g, 0, none⟩), .int .i64 s] w (Ret fun _ w' => Own w0 w' (Wtr g (bs ++ cbits L s) :: ps)) := by
  obtain ⟨b1, o1, c1, rfl, hc1, hc2⟩ := (hc.len w H.drop).some (by rw [nums_length]; omega)
  obtain ⟨b2, o2, c2, rfl, hc3, hc4⟩ := (hc.cod w H.drop).some (by rw [nums_length, codesF_length]; omega)
  have hb := hc.bd hs
  have hw := fun w1 (h : Own w0 w1 (Wtr g bs :: ps)) => code_any (codeF L s) (L.getD s 0) (by omega) (by omega) h (by omega)
  have hcb : (bitsOf (codeF L s) (cut (L.getD s 0))).reverse = cbits L s := by unfold cbits; rw [cut_eq hb.1 (by omega)]
  rw [hcb] at hw
  have hcell : ∀ w1, Own w0 w1 ps → w1.cell? ⟨b1, o1 + s, none⟩ = some (.int .i64 (L.getD s 0)) ∧ w1.cell? ⟨b2, o2 + s, none⟩ = some (.int .i64 (codeF L s)) := fun w1 h => by
    refine ⟨(hc.len w1 h).cell (nums_get (getD_get hs)), (hc.cod w1 h).cell (nums_get ?_)⟩
    rw [getD_get (by rw [codesF_length]; exact hs), codesF_get hs]
  have hfew := hc.few
  obtain ⟨n, hn⟩ : ∃ n, Hid (L.length = n) := ⟨_, rfl⟩
  rw [hn.out] at hs hc1 hc3 hfew ⊢
  generalize L.getD s 0 = x at *
  generalize codeF L s = y at *
  have HW := Lib.hid hw
  have HC := Lib.hid hcell
  have hsI : (s : Int) < (n : Int) := by omega
  have hnil : s < n := hs
  clear hw hcell hc hcb hb
  have H := (H.alloc (.cells #[.slice (some ⟨b1, o1, none⟩) n c1, .slice (some ⟨b2, o2, none⟩) n c2] 92)).swap
  go_enter Try.func69, Try.ntmps69
  go_upto_region 1 with (fail)
  generalize w.alloc _ = w1 at *
  generalize w.heap.size = g2 at *
  refine wp_region_calm (fun w1 => Own w0 w1 (Wtr g bs :: blk g2 (.cells #[.slice (some ⟨b1, o1, none⟩) n c1, .slice (some ⟨b2, o2, none⟩) n c2] 92) :: ps)) 11 (by kernel_rfl) (by kernel_rfl) H.drew ?_
  simp only [List.take_succ_cons, List.take_zero, List.drop_succ_cons, List.drop_zero]
  repeat
    first
    | (refine calm_value (v := ?_) (by decide) rfl (fun σ w1 hS => ?_) ?_
       rotate_left
       · have c0 := (hS.front 1 rfl).cells; obtain ⟨c1, c2⟩ := HC.out _ hS.drop.drop
         first | (go_simp; rfl) | rfl
       simp only [Act.put, List.setIfInBounds_toArray, List.set_cons_zero, List.set_cons_succ])
    | (refine calm_skip (by decide) rfl ?_
       simp only [Act.put, List.setIfInBounds_toArray, List.set_cons_zero, List.set_cons_succ])
  refine calm_nil ?_
  intro wd HD
  clear H
  go_wp2_with fail
  refine (HW.out _ (HD.front 1 rfl).drop).mono ?_
  rintro e w3 ⟨_, rfl, H⟩
  go_wp2_with fail
  go_end0
  exact ⟨_, rfl, H⟩
end Go.Proofs.Ytnebacnmbigaaaa
/- inflate, the document's: the walks of take, table, sym. -/
namespace Go.Proofs.Ytnebacnmbigaaaa
open Go.RowKit

theorem tkV_bd {s : ByteArray} {n k : Nat} (hk : k ≤ 16) : 0 ≤ tkV s n k ∧ tkV s n k < 65536 := by
  unfold tkV
  split
  · have h := valOf_bd (((textBits s).drop n).take (k : Int).toNat)
    refine ⟨h.1, Int.lt_of_lt_of_le h.2 ?_⟩
    have hl : (((textBits s).drop n).take (k : Int).toNat).length ≤ 16 := by simp; omega
    exact pow2_le hl
  · omega
set_option maxHeartbeats 800000 in
theorem rtk_any {w0 w : World} {ps : List Piece} {g rg n : Nat} {s : ByteArray} {out : List Int} {most e : Int} (k : Nat) (hk : k ≤ 16) (H : Own w0 w (Sta g rg s n out most e :: ps)) (hs : s.size ≤ 1000000) (hn : n ≤ 8 * s.size) :
    Calls Try.prog 59 #[.pointer (some ⟨g, 0, none⟩), .int .i64 k] w (Ret fun r w' => ∃ v n' e', r = .int .i64 v ∧ 0 ≤ v ∧ v < 65536 ∧ n' ≤ 8 * s.size ∧ (e ≠ 0 → e' = e ∧ v = 0) ∧ (e = 0 → GotR (takeG (textBits s) k n) v n' e') ∧ Own w0 w' (Sta g rg s n' out most e' :: ps)) := by
  by_cases he : e = 0
  · subst he
    obtain ⟨hg, hn', -⟩ := tk_got (s := s) (n := n) (k := k) (by omega) hn
    obtain ⟨hv0, hv1⟩ := tkV_bd (s := s) (n := n) hk
    replace hg : GotR (takeG (textBits s) k n) (tkV s n k) (tkN s n k) (tkE s n k 0) := by simpa [tkE] using hg
    refine (rtake_tk k hk H hs hn).mono ?_
    rintro e1 w1 ⟨_, rfl, rfl, H1⟩
    exact ⟨_, rfl, _, _, _, rfl, hv0, hv1, hn', fun h => absurd rfl h, fun _ => hg, H1⟩
  · obtain ⟨a, c, b, h1, h2, H⟩ := H.sta
    have c0 := H.cells
    have hb : (e == 0) = false := by simp [he]
    have hb2 : (e != 0) = true := by simp [he]
    go_enter Try.func59, Try.ntmps59
    go_wp2
    go_ret
    exact ⟨_, rfl, 0, n, e, rfl, by omega, by omega, hn, fun _ => ⟨rfl, rfl⟩, fun h => absurd h he, H.unsta rfl⟩
/-- What a symbol's taking yields. -/
def SymP (w0 : World) (ps : List Piece) (g rg : Nat) (s : ByteArray) (n : Nat) (l out : List Int) (most e : Int) (r : Value) (w' : World) : Prop :=
  ∃ x n' e', r = .int .i64 x ∧ 0 ≤ x ∧ x ≤ 1000000 ∧ n' ≤ 8 * s.size ∧ (e ≠ 0 → e' = e ∧ x = 0) ∧ (e = 0 → GotR (symG (textBits s) l n) x n' e') ∧ Own w0 w' (Sta g rg s n' out most e' :: ps)
/-- A code that is read: lengths, and codes. -/
def TabR (w0 : World) (ps : List Piece) (v u : Value) (m : Nat) (l : List Int) : Prop := ∀ w', Own w0 w' ps → Rd w' 1 v m (nums l) ∧ Rd w' 1 u m (nums (codesF l))
set_option maxRecDepth 100000 in
theorem rtable_any {w : World} {v : Value} {n : Nat} {L : List Int} (hr : Rd w 1 v n (nums L)) (hn : n ≤ 1000000) :
    Calls Try.prog 84 #[v] w (Ret fun r w' => ∃ u, r = .agg #[v, u] ∧ Own w w' [slc 3 1 u (cresF L).length (nums (cresF L))]) := by
  obtain ⟨a, c, rfl, hc1, hc2⟩ := hr.shape
  have H := (Own.start w).alloc (.cells #[.slice none 0 0, .slice none 0 0] 130)
  have HC := Lib.hid (rcodes_any (hr.old H) hn)
  clear hr
  go_enter Try.func84, Try.ntmps84
  go_wp2_with fail
  generalize w.alloc _ = w1 at *
  generalize w.heap.size = g at *
  refine HC.out.mono ?_
  rintro e w2 ⟨_, rfl, u, rfl, H2⟩
  have H := (H.join H2).swap
  obtain ⟨a2, c2, rfl, -⟩ := (H.front 1 rfl).rd.shape
  clear H2
  have H : Own w w2 (blk g (.cells #[.slice none 0 0, .slice none 0 0] 130) :: [slc 3 1 (.slice a2 (cresF L).length c2) (cresF L).length (nums (cresF L))]) := H
  go_wp2_with (refine wpList_store_agg (vs := [.slice a n c, .slice a2 (cresF L).length c2]) rfl _ _ rfl rfl H rfl (by kernel_rfl) (by simp) (by simp [Value.oneCell']) rfl ?_; clear H; intro w5 H)
  have c0 := H.cells
  have hld : (loadVar 130 ⟨g, 0, none⟩).run Try.prog w5 = .ok (.agg #[.slice a n c, .slice a2 (cresF L).length c2]) w5 := by
    clear HC
    go_simp
  refine bodyPost_ret (results_cell1 rfl _ _ g _ rfl hld) rfl ?_
  exact ⟨_, rfl, _, rfl, H.drop⟩
theorem dec_e (l : List Int) : ∀ f m c b, (decN l f m c b).2.1 = 0 ∨ (decN l f m c b).2.1 = 2 := by
  intro f
  induction f with
  | zero => intro m c b; right; rfl
  | succ f ih =>
    intro m c b
    cases b with
    | nil => right; rfl
    | cons x t =>
      rw [decN]
      split
      · left; rfl
      · exact ih _ _ _
set_option maxRecDepth 100000 in
set_option maxHeartbeats 1600000 in
theorem rsym_any {w0 w : World} {ps : List Piece} {g rg n m : Nat} {v u : Value} {l : List Int} {s : ByteArray} {out : List Int} {most e : Int} (hT : e = 0 → TabR w0 ps v u m l ∧ (∀ x ∈ l, 0 ≤ x ∧ x ≤ 15) ∧ l.length = m ∧ m ≤ 1000000) (hs : s.size ≤ 1000000) (hn : n ≤ 8 * s.size) (H : Own w0 w (Sta g rg s n out most e :: ps)) :
    Calls Try.prog 85 #[.pointer (some ⟨g, 0, none⟩), .agg #[v, u]] w (Ret fun r w' => SymP w0 ps g rg s n l out most e r w') := by
  obtain ⟨a, c, b, h1, h2, H⟩ := H.sta
  have H := H.alloc (.cells #[v, u] 130)
  go_enter Try.func85, Try.ntmps85
  go_upto_region 1 with (fail)
  generalize w.alloc _ = w1 at *
  generalize w.heap.size = g2 at *
  replace H : Own w0 w1 (RRdr rg s n :: blk g (.cells #[.pointer (some ⟨rg, 0, none⟩), .slice a out.length c, .int .i64 most, .int .i64 e, .bool b] 71) :: slc 5 1 (.slice a out.length c) out.length (bcells out) :: blk g2 (.cells #[v, u] 130) :: ps) := ((H.front 2 rfl).front 2 rfl).front 3 rfl
  have c0 := (H.front 1 rfl).cells
  by_cases he : e = 0
  case neg =>
    have hb : (e == 0) = false := by simp [he]
    have hb2 : (e != 0) = true := by simp [he]
    go_wp2
    go_ret
    exact ⟨_, rfl, show SymP _ _ _ _ _ _ _ _ _ _ _ _ from ⟨0, n, e, rfl, by omega, by omega, hn, fun _ => ⟨rfl, rfl⟩, fun h => absurd h he, ((((H.front 3 rfl).drop).front 2 rfl).front 2 rfl).unsta rfl⟩⟩
  subst he
  obtain ⟨hT1, hT2, hT3, hT4⟩ := hT rfl
  clear hT
  have hg := Lib.hid (sym_got (l := l) (bs := textBits s) (n := n))
  have hu := decN_used (l := l) 15 0 0 ((textBits s).drop n)
  have hxb : 0 ≤ (decF l ((textBits s).drop n)).1 ∧ (decF l ((textBits s).drop n)).1 ≤ 1000000 := by
    have h1 := dec_bd l 15 0 0 ((textBits s).drop n)
    unfold decF
    omega
  have hN : n + (decF l ((textBits s).drop n)).2.2 ≤ 8 * s.size := by
    rw [List.length_drop, textBits_length] at hu
    unfold decF
    omega
  have hx2 : (decF l ((textBits s).drop n)).2.1 = 0 ∨ (decF l ((textBits s).drop n)).2.1 = 2 := dec_e l 15 0 0 _
  have hfd := fun w1 (h : Own w0 w1 (RRdr rg s n :: blk g (.cells #[.pointer (some ⟨rg, 0, none⟩), .slice a out.length c, .int .i64 most, .int .i64 0, .bool b] 71) :: slc 5 1 (.slice a out.length c) out.length (bcells out) :: blk g2 (.cells #[v, u] 130) :: ps)) => find_any hT2 hT3 hT4 (by omega) hn (fun k wz hz => hT1 wz hz.drop.drop.drop.drop) h
  clear hu hT2
  obtain ⟨va, vc, rfl, -⟩ := ((hT1 _ H.drop.drop.drop.drop).1).shape
  obtain ⟨ua, uc, rfl, -⟩ := ((hT1 _ H.drop.drop.drop.drop).2).shape
  obtain ⟨x1, x2, x3, hD⟩ : ∃ x1 x2 x3, Hid (decF l ((textBits s).drop n) = (x1, x2, x3)) := ⟨_, _, _, rfl⟩
  rw [hD.out] at hfd hg hN hxb hx2
  simp only at hN hxb hx2
  have HF := Lib.hid hfd
  replace hx2 := Lib.hid hx2
  clear hfd hT1
  have cR := H.cells
  obtain ⟨M, hM⟩ : ∃ M, Hid (n + x3 = M) := ⟨_, rfl⟩
  rw [hM.out] at HF hg hN
  have hM3 : Hid (IntKind.i64.wrap ((M : Int) - (n : Int)) = (x3 : Int)) := Lib.hid (by have := hM.out; rw [show (M : Int) - (n : Int) = x3 by omega]; exact IntWalk.i64_in _ ⟨by omega, by omega⟩)
  clear hM
  go_upto_region 4 with (fail)
  refine Trk.wp_region_new (fun σ w1 => Own w0 w1 ((if (σ 8).isSome then RRdr rg s M else RRdr rg s n) :: blk g (.cells #[.pointer (some ⟨rg, 0, none⟩), .slice a out.length c, .int .i64 most, .int .i64 0, .bool b] 71) :: slc 5 1 (.slice a out.length c) out.length (bcells out) :: blk g2 (.cells #[.slice va m vc, .slice ua m uc] 130) :: ps)) 13 [] [8] (by intro k hk; simp at hk; subst hk; exact ⟨by omega, by simp, fun o ho => by simp at ho; subst ho; rfl⟩) (by kernel_rfl) (by kernel_rfl) H.drew ?_
  simp only [List.take_succ_cons, List.take_zero, List.drop_succ_cons, List.drop_zero]
  repeat
    first
    | (refine Trk.calm_value (v := ?_) (by decide) (by decide) rfl (fun σ w1 hS => ?_) ?_
       rotate_left
       · have c0 := (hS.front 1 rfl).cells; have c1 := (hS.front 3 rfl).cells
         first | (go_simp; rfl) | rfl
       simp only [Act.put, List.setIfInBounds_toArray, List.set_cons_zero, List.set_cons_succ])
    | (refine Trk.calm_skip (by decide) rfl ?_
       simp only [Act.put, List.setIfInBounds_toArray, List.set_cons_zero, List.set_cons_succ])
  refine kcalm_call (v := .tuple #[.int .i64 x1, .int .i64 x2]) (by decide) (by decide) rfl (fun w1 => (by go_simp; first | exact ⟨rfl, rfl⟩ | rfl)) (fun σ w1 hS hn => ?_) ?_
  · rw [hn] at hS
    refine (HF.out _ hS).mono ?_
    rintro e w2 ⟨_, rfl, rfl, h2⟩
    refine ⟨rfl, ?_⟩
    simpa [Sig.upd] using h2
  simp only [Act.put, List.setIfInBounds_toArray, List.set_cons_zero, List.set_cons_succ]
  repeat
    first
    | (refine Trk.calm_value (v := ?_) (by decide) (by decide) rfl (fun σ w1 hS => ?_) ?_
       rotate_left
       · skip
         first | (go_simp; rfl) | rfl
       simp only [Act.put, List.setIfInBounds_toArray, List.set_cons_zero, List.set_cons_succ])
    | (refine Trk.calm_skip (by decide) rfl ?_
       simp only [Act.put, List.setIfInBounds_toArray, List.set_cons_zero, List.set_cons_succ])
  refine Trk.calm_nil ?_
  intro σ wd _ hσ HD
  have h8 := hσ 8 (by decide)
  rw [if_pos h8] at HD
  clear H hσ h8 c0 cR HF hD
  simp only [putNew, List.foldl_nil]
  have c0 := (HD.front 1 rfl).cells
  have cR := HD.cells
  have H : Own w0 wd (blk g (.cells #[.pointer (some ⟨rg, 0, none⟩), .slice a out.length c, .int .i64 most, .int .i64 0, .bool b] 71) :: slc 5 1 (.slice a out.length c) out.length (bcells out) :: RRdr rg s M :: ps) := (((HD.front 3 rfl).drop).front 2 rfl).front 2 rfl
  rcases hx2.out with h | h
  · have hx2b : (x2 != 0) = false := by simp [h]
    have hx2c : (x2 == 0) = true := by simp [h]
    have hx2d : Hid (fltF false x2 (fltF false 2 0) = x2) := Lib.hid (by rw [flt_no, flt_no, h])
    clear hx2 h
    have K1 := Lib.hid (rran_any (g := g) (rg := rg) false (H.unsta rfl))
    go_wp2_with fail
    refine K1.out.mono ?_
    rintro e w2 ⟨_, rfl, H2⟩
    have K2 := Lib.hid (rfault_any (g := g) (rg := rg) false x2 H2)
    go_wp2_with fail
    refine K2.out.mono ?_
    rintro e w3 ⟨_, rfl, H3⟩
    rw [hx2d.out] at H3
    go_wp2
    go_ret
    exact ⟨_, rfl, show SymP _ _ _ _ _ _ _ _ _ _ _ _ from ⟨x1, M, x2, rfl, hxb.1, hxb.2, hN, fun h => absurd rfl h, fun _ => hg.out, H3⟩⟩
  · have hx2b : (x2 != 0) = true := by simp [h]
    have hx2c : (x2 == 0) = false := by simp [h]
    have hM4 := hM3.out
    by_cases h15 : (x3 : Int) < 15
    · have hx2d : Hid (fltF true x2 (fltF true 2 0) = x2) := Lib.hid (by rw [flt_yes, flt_ne (by decide), h])
      clear hx2 h
      have K1 := Lib.hid (rran_any (g := g) (rg := rg) true (H.unsta rfl))
      go_wp2_with fail
      refine K1.out.mono ?_
      rintro e w2 ⟨_, rfl, H2⟩
      have K2 := Lib.hid (rfault_any (g := g) (rg := rg) true x2 H2)
      go_wp2_with fail
      refine K2.out.mono ?_
      rintro e w3 ⟨_, rfl, H3⟩
      rw [hx2d.out] at H3
      go_wp2
      go_ret
      exact ⟨_, rfl, show SymP _ _ _ _ _ _ _ _ _ _ _ _ from ⟨x1, M, x2, rfl, hxb.1, hxb.2, hN, fun h => absurd rfl h, fun _ => hg.out, H3⟩⟩
    · have hx2d : Hid (fltF true x2 (fltF false 2 0) = x2) := Lib.hid (by rw [flt_no, flt_yes])
      clear hx2 h
      have K1 := Lib.hid (rran_any (g := g) (rg := rg) false (H.unsta rfl))
      go_wp2_with fail
      refine K1.out.mono ?_
      rintro e w2 ⟨_, rfl, H2⟩
      have K2 := Lib.hid (rfault_any (g := g) (rg := rg) true x2 H2)
      go_wp2_with fail
      refine K2.out.mono ?_
      rintro e w3 ⟨_, rfl, H3⟩
      rw [hx2d.out] at H3
      go_wp2
      go_ret
      exact ⟨_, rfl, show SymP _ _ _ _ _ _ _ _ _ _ _ _ from ⟨x1, M, x2, rfl, hxb.1, hxb.2, hN, fun h => absurd rfl h, fun _ => hg.out, H3⟩⟩
end Go.Proofs.Ytnebacnmbigaaaa
/- inflate, the document's: the walk of stored. -/
namespace Go.Proofs.Ytnebacnmbigaaaa
open Go.RowKit

/-- What a block of bytes yields. -/
def StoP (w0 : World) (ps : List Piece) (g rg : Nat) (s : ByteArray) (G : Got (List Int)) (most : Int) (w' : World) : Prop :=
  ∃ out' n' e', n' ≤ 8 * s.size ∧ (out'.length : Int) ≤ most ∧ GotR G out' n' e' ∧ Own w0 w' (Sta g rg s n' out' most e' :: ps)
set_option maxRecDepth 100000 in
set_option maxHeartbeats 1600000 in
theorem rstored_any {w0 w : World} {ps : List Piece} {g rg n : Nat} {s : ByteArray} {out : List Int} {most : Int} (hm : 0 ≤ most ∧ most ≤ 1000000) (ho : (out.length : Int) ≤ most) (hs : s.size ≤ 1000000) (hn : n ≤ 8 * s.size) (H : Own w0 w (Sta g rg s n out most 0 :: ps)) :
    Calls Try.prog 61 #[.pointer (some ⟨g, 0, none⟩)] w (Ret fun _ w' => StoP w0 ps g rg s (storedG (textBits s) most out n) most w') := by
  obtain ⟨a, c, b, h1, h2, H⟩ := H.sta
  have c0 := H.cells
  obtain ⟨q, hq⟩ : ∃ q, Hid (nbytes n = q) := ⟨_, rfl⟩
  have hqs : 8 * q ≤ 8 * s.size := by have := hq.out; unfold nbytes at this; omega
  obtain ⟨G, hG⟩ : ∃ G, Hid (storedG (textBits s) most out n = G) := ⟨_, rfl⟩
  rw [hG.out]
  have hG2 : Hid (G = (takeG (textBits s) 16 (8 * q)).bind fun a n1 => (takeG (textBits s) 16 n1).bind fun b n2 =>
    if a + b = 65535 then
      (if n2 + 8 * a.toNat ≤ (textBits s).length then (if most - out.length < a then .bad 12 else .ok (out ++ bytesAt (textBits s) n2 a.toNat) (n2 + 8 * a.toNat)) else .ran)
    else .bad 2) := Lib.hid (by rw [← hG.out]; unfold storedG; rw [hq.out])
  have HA := Lib.hid (rralign_any H.rot3' (by omega))
  rw [hq.out] at HA
  obtain ⟨B, hB⟩ : ∃ B, Hid (textBits s = B) := ⟨_, rfl⟩
  have hBl : Hid (B.length = 8 * s.size) := Lib.hid (by rw [← hB.out, textBits_length])
  go_enter Try.func61, Try.ntmps61
  go_wp2_with fail
  refine HA.out.mono ?_
  rintro e w1 ⟨_, rfl, H1⟩
  clear HA H c0
  have H := H1.rot3.unsta rfl
  clear H1
  have HT := Lib.hid (rtk_any 16 (by omega) H hs hqs)
  go_wp2_with fail
  refine HT.out.mono ?_
  rintro e w2 ⟨_, rfl, v1, n1, e1, rfl, hv1, hv1', hn1, hd1, hg1, H1⟩
  clear hd1
  replace hg1 := Lib.hid (take_got (hg1 trivial))
  clear HT H
  have HT := Lib.hid (rtk_any 16 (by omega) H1 hs hn1)
  go_wp2_with fail
  refine HT.out.mono ?_
  rintro e w3 ⟨_, rfl, v2, n2, e2, rfl, hv2, hv2', hn2, he2, hg2, H2⟩
  replace hg2 := Lib.hid (fun h => take_got (hg2 h))
  replace he2 := Lib.hid he2
  clear HT H1
  have hcase : Hid (e2 = 2 ∧ G = .ran ∨ e2 = 0 ∧ n2 = 8 * (q + 4) ∧ (G = if v1 + v2 = 65535 then
      (if n2 + 8 * v1.toNat ≤ 8 * s.size then (if most - out.length < v1 then .bad 12 else .ok (out ++ bytesAt (textBits s) n2 v1.toNat) (n2 + 8 * v1.toNat)) else .ran)
    else .bad 2)) := Lib.hid (by
      rcases hg1.out with ⟨rfl, e, e', _⟩ | ⟨rfl, e⟩
      · rcases hg2.out rfl with ⟨rfl, f, f', _⟩ | ⟨rfl, f⟩
        · right
          refine ⟨rfl, by omega, ?_⟩
          rw [hG2.out, e, Got.bind_ok, f, Got.bind_ok, textBits_length]
        · left
          refine ⟨rfl, ?_⟩
          rw [hG2.out, e, Got.bind_ok, f]; rfl
      · left
        refine ⟨(he2.out (by decide)).1, ?_⟩
        rw [hG2.out, e]; rfl)
  clear hg1 hg2 he2 hG2
  rcases hcase.out with ⟨rfl, hGr⟩ | ⟨rfl, rfl, hGr⟩
  · replace hGr := Lib.hid hGr
    clear hcase
    obtain ⟨bad, hbad⟩ : ∃ bad, Hid ((v1 + v2 != 65535) = bad) := ⟨_, rfl⟩
    have HH := Lib.hid (rfault_any (g := g) (rg := rg) bad 2 H2)
    rw [flt_ne (by decide)] at HH
    have hbad1 := hbad.out
    go_wp2_with fail
    refine HH.out.mono ?_
    rintro e w4 ⟨_, rfl, H3⟩
    obtain ⟨a, c, b, h1, h2, H4⟩ := H3.sta
    have c0 := H4.cells
    go_wp2
    go_end0
    exact ⟨_, rfl, show StoP _ _ _ _ _ _ _ _ from ⟨out, n2, 2, hn2, ho, by rw [hGr.out]; rfl, H3⟩⟩
  · clear hcase
    by_cases hx3 : v1 + v2 = 65535
    case neg =>
      have hxb : (v1 + v2 != 65535) = true := by simpa using hx3
      have HH := Lib.hid (rfault_any (g := g) (rg := rg) true 2 H2)
      rw [flt_yes] at HH
      rw [if_neg hx3] at hGr
      replace hGr := Lib.hid hGr
      go_wp2_with fail
      refine HH.out.mono ?_
      rintro e w4 ⟨_, rfl, H3⟩
      obtain ⟨a, c, b, h1, h2, H4⟩ := H3.sta
      have c0 := H4.cells
      go_wp2
      go_end0
      exact ⟨_, rfl, show StoP _ _ _ _ _ _ _ _ from ⟨out, _, 2, hn2, ho, by rw [hGr.out]; rfl, H3⟩⟩
    have hxb : (v1 + v2 != 65535) = false := by simpa using hx3
    rw [if_pos hx3] at hGr
    replace hGr := Lib.hid hGr
    clear hx3
    have HH := Lib.hid (rfault_any (g := g) (rg := rg) false 2 H2)
    rw [flt_no] at HH
    go_wp2_with fail
    refine HH.out.mono ?_
    rintro e w4 ⟨_, rfl, H3⟩
    clear H2 HH
    obtain ⟨a, c, b, h1, h2, H⟩ := H3.sta
    have c0 := H.cells
    have HX := Lib.hid (rrtext_any v1 ⟨by omega, by omega⟩ H.rot3' hs hn2)
    go_wp2_with fail
    refine HX.out.mono ?_
    rintro e w5 ⟨_, rfl, rfl, H4⟩
    clear HX H c0 H3
    have H := H4.rot3.unsta rfl
    clear H4
    by_cases ht : txOk s (8 * (q + 4)) v1
    case neg =>
      have ht2 := ht
      unfold txOk at ht2
      rw [nbytes_8] at ht2
      have hGr2 : Hid (G = .ran) := Lib.hid (by rw [hGr.out, if_neg (by omega)])
      rw [decide_eq_false ht]
      simp only [txN, if_neg ht] at H
      have HH := Lib.hid (rran_any (g := g) (rg := rg) true H)
      rw [flt_yes] at HH
      clear hGr ht ht2
      go_wp2_with fail
      refine HH.out.mono ?_
      rintro e w6 ⟨_, rfl, H3⟩
      obtain ⟨a, c, b, h1, h2, H⟩ := H3.sta
      obtain ⟨N, hN⟩ : ∃ N, Hid (out.length = N) := ⟨_, rfl⟩
      rw [hN.out] at H h1 ho
      have hw : IntKind.i64.wrap (most - (N : Int)) = most - N := IntWalk.i64_in _ ⟨by omega, by omega⟩
      obtain ⟨lt, hlt⟩ : ∃ lt, Hid (decide (most - (N : Int) < v1) = lt) := ⟨_, rfl⟩
      go_upto_region 7 with (fail)
      refine wp_region_calm (fun w1 => Own w0 w1 (blk g (.cells #[.pointer (some ⟨rg, 0, none⟩), .slice a N c, .int .i64 most, .int .i64 2, .bool b] 71) :: slc 5 1 (.slice a N c) N (bcells out) :: RRdr rg s (8 * (q + 4)) :: ps)) 13 (by kernel_rfl) (by kernel_rfl) H.drew ?_
      simp only [List.take_succ_cons, List.take_zero, List.drop_succ_cons, List.drop_zero]
      repeat
        first
        | (refine calm_value (v := ?_) (by decide) rfl (fun σ w1 hS => ?_) ?_
           rotate_left
           · have c0 := hS.cells
             first | (go_simp; rfl) | rfl
           simp only [Act.put, List.setIfInBounds_toArray, List.set_cons_zero, List.set_cons_succ])
        | (refine calm_skip (by decide) rfl ?_
           simp only [Act.put, List.setIfInBounds_toArray, List.set_cons_zero, List.set_cons_succ])
      refine calm_nil ?_
      intro wd HD
      rw [hlt.out]
      clear H H3
      have HQ := Lib.hid (rfault_any (g := g) (rg := rg) lt 12 (HD.unsta hN.out.symm))
      rw [flt_ne (by decide)] at HQ
      go_wp2_with fail
      refine HQ.out.mono ?_
      rintro e w7 ⟨_, rfl, H3⟩
      obtain ⟨a, c, b, h1, h2, H4⟩ := H3.sta
      have c0 := H4.cells
      go_wp2
      go_end0
      exact ⟨_, rfl, show StoP _ _ _ _ _ _ _ _ from ⟨out, _, 2, hn2, by rw [hN.out]; exact ho, by rw [hGr2.out]; rfl, H3⟩⟩
    have ht2 := ht
    unfold txOk at ht2
    rw [nbytes_8] at ht2
    obtain ⟨k, rfl⟩ : ∃ k : Nat, v1 = k := ⟨v1.toNat, by omega⟩
    rw [decide_eq_true ht]
    simp only [txN, txV, if_pos ht, nbytes_8, Int.toNat_natCast] at H ⊢
    have hGr2 : Hid (G = if most - out.length < (k : Int) then .bad 12 else .ok (out ++ byteNums (s.extract (q + 4) (q + 4 + k))) (8 * (q + 4 + k))) := Lib.hid (by
      rw [hGr.out, if_pos (by omega)]
      simp only [Int.toNat_natCast]
      rw [bytesAt_text (by omega), show 8 * (q + 4) + 8 * k = 8 * (q + 4 + k) by omega])
    have hts : Hid ((s.extract (q + 4) (q + 4 + k)).size = k) := Lib.hid (by rw [ByteArray.size_extract]; omega)
    obtain ⟨t, htt⟩ : ∃ t, Hid (s.extract (q + 4) (q + 4 + k) = t) := ⟨_, rfl⟩
    rw [htt.out] at hts hGr2
    rw [htt.out]
    have hn3 : 8 * (q + 4 + k) ≤ 8 * s.size := by omega
    have HH := Lib.hid (rran_any (g := g) (rg := rg) false H)
    rw [flt_no] at HH
    clear hGr ht ht2 H
    go_wp2_with fail
    refine HH.out.mono ?_
    rintro e w6 ⟨_, rfl, H3⟩
    clear HH
    obtain ⟨a, c, b, h1, h2, H⟩ := H3.sta
    obtain ⟨N, hN⟩ : ∃ N, Hid (out.length = N) := ⟨_, rfl⟩
    rw [hN.out] at H h1 ho
    have hw : IntKind.i64.wrap (most - (N : Int)) = most - N := IntWalk.i64_in _ ⟨by omega, by omega⟩
    obtain ⟨lt, hlt⟩ : ∃ lt, Hid (decide (most - (N : Int) < (k : Int)) = lt) := ⟨_, rfl⟩
    go_upto_region 7 with (fail)
    refine wp_region_calm (fun w1 => Own w0 w1 (blk g (.cells #[.pointer (some ⟨rg, 0, none⟩), .slice a N c, .int .i64 most, .int .i64 0, .bool b] 71) :: slc 5 1 (.slice a N c) N (bcells out) :: RRdr rg s (8 * (q + 4 + k)) :: ps)) 13 (by kernel_rfl) (by kernel_rfl) H.drew ?_
    simp only [List.take_succ_cons, List.take_zero, List.drop_succ_cons, List.drop_zero]
    repeat
      first
      | (refine calm_value (v := ?_) (by decide) rfl (fun σ w1 hS => ?_) ?_
         rotate_left
         · have c0 := hS.cells
           first | (go_simp; rfl) | rfl
         simp only [Act.put, List.setIfInBounds_toArray, List.set_cons_zero, List.set_cons_succ])
      | (refine calm_skip (by decide) rfl ?_
         simp only [Act.put, List.setIfInBounds_toArray, List.set_cons_zero, List.set_cons_succ])
    refine calm_nil ?_
    intro wd HD
    rw [hlt.out]
    clear H H3
    have HQ := Lib.hid (rfault_any (g := g) (rg := rg) lt 12 (HD.unsta hN.out.symm))
    rw [hN.out] at hGr2
    go_wp2_with fail
    refine HQ.out.mono ?_
    rintro e w7 ⟨_, rfl, H3⟩
    clear HD HQ
    cases lt with
    | true =>
      rw [flt_yes] at H3
      obtain ⟨a, c, b, h1, h2, H4⟩ := H3.sta
      have c0 := H4.cells
      have hGr3 := hGr2.out
      rw [if_pos (of_decide_eq_true hlt.out)] at hGr3
      replace hGr3 := Lib.hid hGr3
      clear hlt hGr2
      go_wp2
      go_end0
      exact ⟨_, rfl, show StoP _ _ _ _ _ _ _ _ from ⟨out, _, 12, by omega, by rw [hN.out]; exact ho, by rw [hGr3.out]; rfl, H3⟩⟩
    | false =>
      rw [flt_no] at H3
      have hlt2 := of_decide_eq_false hlt.out
      have hGr3 := hGr2.out
      rw [if_neg hlt2] at hGr3
      replace hGr3 := Lib.hid hGr3
      clear hGr2 hlt
      obtain ⟨a, c, b, h1, h2, H⟩ := H3.sta
      rw [hN.out] at H h1
      have c0 := H.cells
      have hsz : N + t.size ≤ 140737488355328 := by have := hts.out; omega
      clear H3
      go_wp2_with (first
        | (at_builtin; refine wpList_append_str rfl _ _ rfl Try.underlying32 Try.underlying9 u8Info rfl rfl H.swap rfl hsz ?_; clear H c0; intro v' w' H; replace H := H.swap; obtain ⟨a', c', rfl, h1', h2'⟩ := (H.front 1 rfl).rd.shape)
        | (refine wpList_store_slice rfl _ _ rfl rfl H rfl (by kernel_rfl) (by simp) ?_; clear H; intro w2 H))
      go_end0
      have hlen : (out ++ byteNums t).length = N + t.size := by rw [List.length_append, hN.out, byteNums_length]
      refine ⟨_, rfl, show StoP _ _ _ _ _ _ _ _ from ⟨out ++ byteNums t, 8 * (q + 4 + k), 0, hn3, by rw [hlen, hts.out]; omega, by rw [hGr3.out]; exact ⟨rfl, rfl, rfl⟩, ?_⟩⟩
      have hbc : bcells (out ++ byteNums t) = bcells out ++ byteCells t := by rw [byteCells_nums]; simp [bcells, u8s]
      rw [← hbc] at H
      exact H.unsta hlen.symm
end Go.Proofs.Ytnebacnmbigaaaa
/- slices.Repeat: the walks of the product of two words, the first 1. -/
namespace Go.Proofs.Ytnebacnmbigaaaa
open Go.RowKit

theorem u64_mask (k : Nat) (h : k ≤ 1000000) : bits .and .u64 (k : Int) 4294967295 = (k : Int) := by
  have key : IntKind.u64.wrap ((BitVec.ofInt 64 (k : Int) &&& BitVec.ofInt 64 ((4294967295 : Nat) : Int)).toNat : Int) = (k : Int) := by
    rw [BitVec.ofInt_natCast, BitVec.ofInt_natCast, BitVec.toNat_and, BitVec.toNat_ofNat, BitVec.toNat_ofNat, Nat.mod_eq_of_lt (by omega), Nat.mod_eq_of_lt (by omega)]
    have := Nat.and_two_pow_sub_one_eq_mod k 32
    rw [show 2 ^ 32 - 1 = 4294967295 by decide] at this
    rw [this, Nat.mod_eq_of_lt (by omega)]
    exact IntWalk.u64_in _ ⟨by omega, by omega⟩
  exact key
set_option maxRecDepth 100000 in
theorem mul64_any (k : Nat) (h : k ≤ 1000000) (w : World) :
    Calls Try.prog 89 #[.int .u64 1, .int .u64 k] w (Ret fun r w' => r = .tuple #[.int .u64 0, .int .u64 k] ∧ Own w w' []) := by
  have H := Own.start w
  have h1 := u64_mask k h
  have h2 : bits .and .u64 1 4294967295 = 1 := by decide
  have h3 : (k : Int) / 4294967296 = 0 := by omega
  go_enter Try.func89, Try.ntmps89
  go_wp2_with fail
  go_ret2
  exact ⟨_, rfl, rfl, H⟩
theorem mul_any (k : Nat) (h : k ≤ 1000000) (w : World) :
    Calls Try.prog 66 #[.int .u64 1, .int .u64 k] w (Ret fun r w' => r = .tuple #[.int .u64 0, .int .u64 k] ∧ Own w w' []) := by
  have H := Own.start w
  have h2 := mul64_any k h
  go_enter Try.func66, Try.ntmps66
  go_wp2_with fail
  refine (h2 _).mono ?_
  rintro e w2 ⟨_, rfl, rfl, H2⟩
  have H := H.join H2
  go_wp2_with fail
  go_ret2
  exact ⟨_, rfl, rfl, H⟩
end Go.Proofs.Ytnebacnmbigaaaa
/- copy into a row of the call's own; slices.Repeat of one int. -/
namespace Go.Proofs.Ytnebacnmbigaaaa
open Go.RowKit

section
variable {w0 w w' : World} {ps : List Piece} {e : TypeId} {n : Nat} {xs : List Value}
variable {P : Program} {ops : Array Oper} {rest : List Oper} {o : Oper} {a : Act} {Q : Exit → Act → World → Prop}
theorem wpList_copy_slc (hgd : o.guard = none) (d s : Operand) (dT sT : TypeId) (ho : o.op = .call { callee := .builtin .copy, args := #[d, s], argTypes := #[dT, sT] })
    (hu : P.underlying dT = some (.slice e)) (hsz : (P.info? e).map (·.size) = some 1) {g c : Nat} (H : Own w0 w (slc e 1 (.slice (some ⟨g, 0, none⟩) n c) n xs :: ps))
    (dp sp : Option Addr) (dLen dCap sLen sCap : Nat) (hd : a.eval d = .slice dp dLen dCap) (hs : a.eval s = .slice sp sLen sCap)
    (off m : Nat) (cs : List Value) (hm : cs.length = m) (hn : m = Nat.min sLen dLen) (hpos : 0 < m → dp = some ⟨g, off, none⟩ ∧ ∃ ad, sp = some ad ∧ ∀ j v, cs[j]? = some v → w.cell? (ad.add j) = some v)
    (hfit : off + m ≤ n) (h1 : ∀ v ∈ cs, v.oneCell' = true)
    (h : ∀ w', Own w0 w' (slc e 1 (.slice (some ⟨g, 0, none⟩) n c) n (splice xs off cs) :: ps) → wpList P ops Q rest (a.put o.dst (.int .i64 m)) w') : wpList P ops Q (o :: rest) a w := by
  subst hm
  by_cases h0 : cs.length = 0
  · obtain rfl : cs = [] := List.eq_nil_of_length_eq_zero h0
    refine wpList_copy_nothing hgd d s dT sT ho e hu hsz dp sp dLen dCap sLen sCap hd hs (by simpa using hn.symm) ?_
    exact h w (by simpa [splice] using H)
  · obtain ⟨rfl, ad, rfl, hsrc⟩ := hpos (by omega)
    rcases H.slc_cases with ⟨hv, _⟩ | ⟨g', cap, cur, he, hl, c1, c2, c3, c4, h5⟩
    · cases hv
    · cases he
      refine wpList_copy_own hgd d s dT sT ho e hu hsz g off dLen dCap ad sLen sCap hd hs cur e h5.block.1 cs hn hsrc (by omega) h1 ?_
      refine h _ ((h5.setRow (cur' := (cur.toList.take off ++ (cs ++ cur.toList.drop (off + cs.length))).toArray)).slc_mk ?_ c1 c2 ?_ ?_)
      · rw [length_splice _ _ _ (by omega)]; exact hl
      · simp only [List.size_toArray, List.length_append, List.length_take, List.length_drop, Array.length_toList]; omega
      · have hcl : cur.toList.length = cur.size := by simp
        unfold splice
        rw [← c4, List.toList_toArray, Nat.mul_one, List.take_append, List.take_append, List.take_take, List.drop_take, List.length_take, Nat.min_eq_left (show off ≤ cur.toList.length by omega), List.take_take,
          Nat.min_eq_right (show off ≤ n by omega), List.take_of_length_le (l := cs) (by omega), Nat.min_eq_left (show off ≤ n by omega), show n - off - cs.length = n - (off + cs.length) by omega]
end

theorem rep_splice (a : Int) {k n m : Nat} (h : n + m ≤ k) : splice (nums (List.replicate n a ++ List.replicate (k - n) 0)) n (nums (List.replicate m a)) = nums (List.replicate (n + m) a ++ List.replicate (k - (n + m)) 0) := by
  unfold splice nums
  rw [List.map_append, List.map_append, List.take_left' (by simp), List.drop_append, List.drop_eq_nil_of_le (by simp), List.nil_append]
  simp only [List.map_replicate, List.length_replicate, List.drop_replicate]
  rw [← List.append_assoc, List.replicate_append_replicate, show k - n - (n + m - n) = k - (n + m) by omega]

set_option maxRecDepth 100000 in
set_option maxHeartbeats 1600000 in
theorem repeat_any {w : World} {v : Value} {a : Int} (k : Nat) (hr : Rd w 1 v 1 (nums [a])) (hk : k ≤ 1000000) :
    Calls Try.prog 40 #[v, .int .i64 k] w (Ret fun r w' => Own w w' [slc 3 1 r k (nums (List.replicate k a))]) := by
  have H := Own.start w
  obtain ⟨b, o, c, rfl, hc1, hc2⟩ := hr.some (by simp [nums])
  have c0 := hr.cell (u := .int .i64 a) (j := 0) rfl
  have HC0 := Lib.hid c0
  clear hr c0
  have hmul := mul_any k hk
  have HM := Lib.hid hmul
  clear hmul
  have hkI : (k : Int) ≤ 9223372036854775807 := by omega
  have hkw : IntKind.u64.wrap (k : Int) = (k : Int) := IntWalk.u64_in _ ⟨by omega, by omega⟩
  have hkw2 : IntKind.i64.wrap (k : Int) = (k : Int) := IntWalk.i64_in _ ⟨by omega, by omega⟩
  have hmk : ∀ w : World, (Instr.makeSlice 31 (.int .i64 k) (.int .i64 k)).run Try.prog w = .ok (.slice (some ⟨w.heap.size, 0, none⟩) k k) (w.alloc (.cells (madeCells #[.int .i64 0] k) 3)) := run_make_row' _ _ _ 8 Try.underlying31 intInfo rfl .i64 .i64 k (by omega) (by omega)
  go_enter Try.func40, Try.ntmps40
  go_wp2_with fail
  refine (HM.out _).mono ?_
  rintro e w2 ⟨_, rfl, rfl, H2⟩
  have H := H.join H2
  clear H2
  go_upto_region 7 with (fail)
  have h1 := H.alloc (.cells (madeCells #[.int .i64 0] k) 3)
  have H : Own w (w2.alloc (.cells (madeCells #[.int .i64 0] k) 3)) [slc 3 1 (.slice (some ⟨w2.heap.size, 0, none⟩) k k) k (nums (List.replicate 0 a ++ List.replicate (k - 0) 0))] :=
    h1.slc_mk (by simp [nums]) (Nat.le_refl _) (by simp [maxLen]; omega) (by simp [size_madeCells]) (by rw [toList_madeCells_one]; simp [nums])
  have c0 := (show (w2.alloc (.cells (madeCells #[.int .i64 0] k) 3)).cell? ⟨b, o + 0, none⟩ = some (.int .i64 a) by rw [H.oldCell (World.block_lt_of_cell? _ _ HC0.out)]; exact HC0.out)
  clear h1
  generalize w2.alloc (.cells (madeCells #[.int .i64 0] k) 3) = w3 at *
  obtain ⟨g, hg⟩ : ∃ g, w2.heap.size = g := ⟨_, rfl⟩
  rw [hg] at H ⊢
  clear hg hmk HM
  have hsrc : ∀ j v, (nums (List.replicate (min k 1) a))[j]? = some v → w3.cell? ((⟨b, o, none⟩ : Addr).add j) = some v := fun j v hj => by
    have hlt := (List.getElem?_eq_some_iff.1 hj).1
    rw [nums_length, List.length_replicate] at hlt
    have : j = 0 := by omega
    subst this
    rw [Addr.add_lit, c0]
    have hk1 : min k 1 = 1 := by omega
    rw [hk1] at hj
    exact hj
  obtain ⟨m1, hm1⟩ : ∃ m1, Hid (min k 1 = m1) := ⟨_, rfl⟩
  have hmin : m1 = Nat.min 1 k := by rw [← hm1.out]; show min k 1 = min 1 k; omega
  rw [hm1.out] at hsrc
  have HS := Lib.hid hsrc
  have HMIN := Lib.hid hmin
  have hm1k : m1 ≤ k := by rw [← hm1.out]; omega
  have hm10 : 1 ≤ k → 1 ≤ m1 := fun h => by rw [← hm1.out]; omega
  have HP := Lib.hid hm10
  have HONE : Hid (∀ m : Nat, ∀ v ∈ nums (List.replicate m a), v.oneCell' = true) := Lib.hid (fun m v hv => by
    unfold nums at hv; obtain ⟨x, _, rfl⟩ := List.mem_map.1 hv; rfl)
  clear c0 hsrc hmin hm10
  go_wp2_with (refine wpList_copy_slc rfl _ _ _ _ rfl Try.underlying31 (by kernel_rfl) H _ _ _ _ _ _ rfl rfl 0 m1 (nums (List.replicate m1 a)) (by simp [nums]) HMIN.out (fun h => ⟨rfl, _, rfl, HS.out⟩) (by omega) (HONE.out m1) ?_; clear H; intro w4 H; rw [rep_splice a (by omega), Nat.zero_add] at H)
  go_loopw [8] (fun s8 wx => ∃ n : Nat, s8 = .int .i64 n ∧ n ≤ k ∧ (1 ≤ k → 1 ≤ n) ∧ Own w wx [slc 3 1 (.slice (some ⟨g, 0, none⟩) k k) k (nums (List.replicate n a ++ List.replicate (k - n) 0))]) (fun s8 _ => k - (intOf s8).toNat)
  case atStart => exact ⟨m1, by go_num, hm1k, HP.out, H⟩
  case round =>
    clear H
    obtain ⟨n, rfl, hn, hn1, H⟩ := hrel
    by_cases hlt : n < k
    · have hI : (n : Int) < (k : Int) := by omega
      have hn1 := hn1 (by omega)
      obtain ⟨m, hm⟩ : ∃ m, Hid (min n (k - n) = m) := ⟨_, rfl⟩
      have hm1 : 1 ≤ m := by rw [← hm.out]; omega
      have hmk : n + m ≤ k := by rw [← hm.out]; omega
      have hmn : m ≤ n := by rw [← hm.out]; omega
      have hmin : m = Nat.min n (k - n) := hm.out.symm
      have HMIN2 := Lib.hid hmin
      have hsub : ((k : Int) - (n : Int)) = ((k - n : Nat) : Int) := by omega
      clear hmin
      have hcut : (n : Int) ≤ (k : Int) := by omega
      have hn0 : n ≠ 0 := by omega
      have hkn : k ≠ n := by omega
      go_upto_region 9 with (fail)
      refine wp_region_pres (fun σ w1 => Own w w1 [slc 3 1 (.slice (some ⟨g, 0, none⟩) k k) k (nums (List.replicate n a ++ List.replicate (k - n) 0))]) 7 [] [0] (by kernel_rfl) (by kernel_rfl) (by kernel_rfl) (by kernel_rfl) (fun _ _ d _ _ h => by cases d <;> exact h) ⟨_, _, rfl, fun w => (by first | rfl | (go_simp; rfl)), rfl⟩ H.drew ?_
      simp only [List.take_succ_cons, List.take_zero, List.drop_succ_cons, List.drop_zero]
      repeat
        first
        | (refine calm_value (v := ?_) (by decide) rfl (fun σ w1 hS => ?_) ?_
           rotate_left
           · skip
             first | (go_simp; rfl) | rfl
           simp only [Act.put, List.setIfInBounds_toArray, List.set_cons_zero, List.set_cons_succ])
        | (refine calm_skip (by decide) rfl ?_
           simp only [Act.put, List.setIfInBounds_toArray, List.set_cons_zero, List.set_cons_succ])
      refine calm_nil ?_
      intro σ wd hσ HD
      clear H
      simp only [putNew, List.foldl_nil]
      have hsrc : ∀ j v, (nums (List.replicate m a))[j]? = some v → wd.cell? ((⟨g, 0, none⟩ : Addr).add j) = some v := fun j v hj => by
        have hlt := (List.getElem?_eq_some_iff.1 hj).1
        rw [nums_length, List.length_replicate] at hlt
        rw [Addr.add_lit]
        refine HD.rd.cell ?_
        unfold nums at hj ⊢
        rw [List.map_append, List.getElem?_append_left (by simp; omega), ← hj]
        simp only [List.map_replicate, List.getElem?_replicate]
        rw [if_pos (by omega), if_pos hlt]
      have HS2 := Lib.hid hsrc
      have hnm : IntKind.i64.wrap ((n : Int) + (m : Int)) = ((n + m : Nat) : Int) := by rw [Int.natCast_add]; exact IntWalk.i64_in _ ⟨by omega, by omega⟩
      clear hsrc
      go_wp2_with (refine wpList_copy_slc rfl _ _ _ _ rfl Try.underlying31 (by kernel_rfl) HD _ _ _ _ _ _ rfl rfl n m (nums (List.replicate m a)) (by simp [nums]) HMIN2.out (fun h => ⟨rfl, _, rfl, HS2.out⟩) (by omega) (HONE.out m) ?_; clear HD; intro w6 H; rw [rep_splice a (by omega)] at H)
      go_roundw
      case rel => exact ⟨n + m, by go_num, by omega, fun _ => by omega, H⟩
      case measure => simp [intOf]; omega
    · have hI : ¬ (n : Int) < (k : Int) := by omega
      obtain rfl : n = k := by omega
      rw [Nat.sub_self, List.replicate_zero, List.append_nil] at H
      go_wp2_with fail
      go_ret
      exact ⟨_, rfl, H⟩
end Go.Proofs.Ytnebacnmbigaaaa
/- slices.Grow of nil, slices.Concat: the walks. -/
namespace Go.Proofs.Ytnebacnmbigaaaa
open Go.RowKit

set_option maxRecDepth 100000 in
theorem grow_any (n : Nat) (hn : n ≤ 1000000) (w : World) :
    Calls Try.prog 65 #[.slice none 0 0, .int .i64 n] w (Ret fun r w' => Own w w' [slc 3 1 r 0 []]) := by
  have H := Own.start w
  by_cases h0 : n = 0
  · subst h0
    have H := H.nil 3 1
    go_enter Try.func65, Try.ntmps65
    go_wp2_with fail
    go_ret
    exact ⟨_, rfl, H⟩
  · have hI : (n : Int) > 0 := by omega
    obtain ⟨i, hi, hz, hsize, hby⟩ := info_parts intInfo
    have hap : ∀ (w : World) (ty : TypeId) (t2 : TypeId), Try.prog.underlying t2 = some (.int .i64) → (Builtin.append_ #[31, t2] ty #[.slice none 0 0, .int .i64 n]).run Try.prog w = .ok (.slice (some ⟨w.heap.size, 0, none⟩) n (grownCap w n 0 3)) (w.drew.alloc (.cells (Builtin.zeroCells (Value.int .i64 0).cells n ++ Builtin.zeroCells (Value.int .i64 0).cells (grownCap w n 0 3 - n)) 3)) := fun w ty t2 ht2 =>
      Lib.run_append_nil_zeros w 31 t2 ty 3 i (.int .i64 0) .i64 .i64 Try.underlying31 ht2 hi hz n (by omega) (by omega) (by omega) (by rw [hby]; omega)
    have HA := Lib.hid hap
    have hge := grownCap_ge w n 0 3
    have hle := grownCap_le_maxLen w n 0 3 (by simp [maxLen]; omega)
    have H2 : Own w (w.drew.alloc (.cells (Builtin.zeroCells (Value.int .i64 0).cells n ++ Builtin.zeroCells (Value.int .i64 0).cells (grownCap w n 0 3 - n)) 3)) [slc 3 1 (.slice (some ⟨w.heap.size, 0, none⟩) 0 (grownCap w n 0 3)) 0 []] := by
      have h1 := H.drew.alloc (.cells (Builtin.zeroCells (Value.int .i64 0).cells n ++ Builtin.zeroCells (Value.int .i64 0).cells (grownCap w n 0 3 - n)) 3)
      exact h1.slc_mk (by simp) (Nat.zero_le _) hle (by simp [size_zeroCells, Value.cells]; omega) (by simp)
    clear hap
    go_enter Try.func65, Try.ntmps65
    go_wp2_with (at_builtin; refine Lib.wpList_append_run _ rfl _ _ _ _ rfl _ _ rfl rfl _ _ (HA.out _ _ _ (by kernel_rfl)) ?_; clear H; generalize w.drew.alloc _ = w2 at *; generalize grownCap w n 0 3 = gc at *)
    go_ret
    exact ⟨_, rfl, H2⟩

/-- How many ints the first k lists have. -/
def flatN (Ls : List (List Int)) (k : Nat) : List Int := (Ls.take k).flatten
theorem flatN_succ {Ls : List (List Int)} {k : Nat} {L : List Int} (h : Ls[k]? = some L) : flatN Ls (k + 1) = flatN Ls k ++ L := by
  unfold flatN
  rw [List.take_add_one, h, List.flatten_append]
  simp
theorem flatN_le (Ls : List (List Int)) (k : Nat) : (flatN Ls k).length ≤ Ls.flatten.length := by
  unfold flatN
  conv => rhs; rw [← List.take_append_drop k Ls, List.flatten_append, List.length_append]
  omega
set_option maxRecDepth 100000 in
set_option maxHeartbeats 1600000 in
theorem concat_any {w : World} {v : Value} {m : Nat} (Ls : List (List Int)) (vs : List Value) (hr : Rd w 1 v m vs) (hl : vs.length = m) (hLl : Ls.length = m) (hm : m ≤ 1000)
    (hall : ∀ (k : Nat) (u : Value) (L : List Int), vs[k]? = some u → Ls[k]? = some L → Rd w 1 u L.length (nums L)) (hN : Ls.flatten.length ≤ 100000) :
    Calls Try.prog 39 #[v] w (Ret fun r w' => Own w w' [slc 3 1 r Ls.flatten.length (nums Ls.flatten)]) := by
  have H := Own.start w
  obtain ⟨a, c, rfl, hc1, hc2⟩ := hr.shape
  have HR := Lib.hid hr
  have HALL := Lib.hid hall
  have HL := Lib.hid hl
  have HLL := Lib.hid hLl
  clear hr hall hl hLl
  have hg : ∀ (n : Nat), n ≤ 1000000 → ∀ w, Calls Try.prog 65 #[.slice none 0 0, .int .i64 n] w (Ret fun r w' => Own w w' [slc 3 1 r 0 []]) := fun n hn w => grow_any n hn w
  have HG := Lib.hid hg
  clear hg
  obtain ⟨N, hNN⟩ : ∃ N, Hid (Ls.flatten.length = N) := ⟨_, rfl⟩
  rw [hNN.out] at hN ⊢
  obtain ⟨FL, hFL⟩ : ∃ FL, Hid (Ls.flatten = FL) := ⟨_, rfl⟩
  rw [hFL.out]
  go_enter Try.func39, Try.ntmps39
  go_wp2_with fail
  go_loopw [3, 11] (fun s3 s11 wx => ∃ k q : Nat, s11 = .int .i64 k ∧ k ≤ m ∧ s3 = .int .i64 q ∧ Hid ((flatN Ls k).length = q) ∧ q ≤ 100000 ∧ Own w wx []) (fun _ s11 _ => m - (intOf s11).toNat)
  case atStart => exact ⟨0, 0, by go_num, by omega, by go_num, Lib.hid (by simp [flatN]), by omega, H⟩
  case round =>
    clear H
    obtain ⟨k, q, rfl, hk, rfl, hq, hqN, H⟩ := hrel
    by_cases hlt : k < m
    · have hI : (k : Int) < (m : Int) := by omega
      obtain ⟨u, hu⟩ := get_of_lt (l := vs) (k := k) (by have := HL.out; omega)
      obtain ⟨L, hL⟩ := get_of_lt (l := Ls) (k := k) (by have := HLL.out; omega)
      obtain ⟨b, o, _, he, -⟩ := HR.out.some (by have := HL.out; omega)
      cases he
      have c0 := (HR.out.old H).cell hu
      have hu2 := HALL.out k u L hu hL
      obtain ⟨ua, uc, rfl, huc1, huc2⟩ := hu2.shape
      have hs := flatN_succ hL
      have hle := flatN_le Ls (k + 1)
      rw [hNN.out] at hle
      have hq2 : Hid ((flatN Ls (k + 1)).length = q + L.length) := Lib.hid (by rw [hs, List.length_append, hq.out])
      have hb : q + L.length ≤ 100000 := by have := hq2.out; omega
      obtain ⟨x, hx⟩ : ∃ x, Hid (L.length = x) := ⟨_, rfl⟩
      rw [hx.out] at hb hq2 huc1 c0
      have hw : IntKind.i64.wrap ((q : Int) + (x : Int)) = (q : Int) + (x : Int) := IntWalk.i64_in _ ⟨by omega, by omega⟩
      have hnn : ¬ ((q : Int) + (x : Int) < 0) := by omega
      clear hu hL hu2 hs hle
      go_wp2_with fail
      go_roundw
      case rel => exact ⟨k + 1, q + x, by go_num, by omega, by go_num, hq2, hb, H⟩
      case measure => simp [intOf]; omega
    · have hI : ¬ (k : Int) < (m : Int) := by omega
      go_wp2_with fail
      refine (HG.out q (by omega) _).mono ?_
      rintro e w2 ⟨v6, rfl, H2⟩
      have H := H.join H2
      clear H2
      obtain ⟨a6, c6, rfl, -⟩ := H.rd.shape
      go_wp2_with fail
      go_loopw [6, 27] (fun s6 s27 wx => ∃ k q : Nat, s27 = .int .i64 k ∧ k ≤ m ∧ Hid ((flatN Ls k).length = q) ∧ q ≤ 100000 ∧ Own w wx [slc 3 1 s6 q (nums (flatN Ls k))]) (fun _ s27 _ => m - (intOf s27).toNat)
      case atStart => exact ⟨0, 0, by go_num, by omega, Lib.hid (by simp [flatN]), by omega, H⟩
      case round =>
        clear H hq hqN
        obtain ⟨k, q, rfl, hk, hq, hqN, H⟩ := hrel
        rename_i v6 _
        obtain ⟨a6, c6, rfl, -⟩ := H.rd.shape
        by_cases hlt : k < m
        · have hI : (k : Int) < (m : Int) := by omega
          obtain ⟨u, hu⟩ := get_of_lt (l := vs) (k := k) (by have := HL.out; omega)
          obtain ⟨L, hL⟩ := get_of_lt (l := Ls) (k := k) (by have := HLL.out; omega)
          obtain ⟨b, o, _, he, -⟩ := HR.out.some (by have := HL.out; omega)
          cases he
          have c0 := (HR.out.old H).cell hu
          have hu2 := HALL.out k u L hu hL
          obtain ⟨ua, uc, rfl, huc1, huc2⟩ := hu2.shape
          have hs := flatN_succ hL
          have hle := flatN_le Ls (k + 1)
          rw [hNN.out] at hle
          obtain ⟨x, hx⟩ : ∃ x, Hid (L.length = x) := ⟨_, rfl⟩
          have hq2 : Hid ((flatN Ls (k + 1)).length = q + x) := Lib.hid (by rw [hs, List.length_append, hq.out, hx.out])
          have hb : q + x ≤ 100000 := by have := hq2.out; omega
          have hold := hu2.old H
          rw [hx.out] at huc1 c0 hold
          have HS := Lib.hid (show nums (flatN Ls k) ++ nums L = nums (flatN Ls (k + 1)) by rw [hs]; simp [nums])
          have HO := Lib.hid hold
          have H1 : Hid (∀ v ∈ nums L, v.oneCell' = true) := Lib.hid (fun v hv => by unfold nums at hv; obtain ⟨x, _, rfl⟩ := List.mem_map.1 hv; rfl)
          clear hu hL hu2 hs hle hold
          go_wp2_with (at_builtin; refine wpList_append_sep rfl _ _ rfl Try.underlying31 intInfo rfl (by decide) rfl H HO.out H1.out (by omega) (by omega) ?_; clear H c0; intro v' w' H; rw [HS.out] at H; obtain ⟨a8, c8, rfl, -⟩ := H.rd.shape)
          go_roundw
          case rel => exact ⟨k + 1, q + x, by go_num, by omega, hq2, hb, H⟩
          case measure => simp [intOf]; omega
        · have hI : ¬ (k : Int) < (m : Int) := by omega
          have hfl : flatN Ls k = Ls.flatten := by unfold flatN; rw [List.take_of_length_le (by have := HLL.out; omega)]
          have hqq : q = N := by rw [← hq.out, hfl, hNN.out]
          subst hqq
          rw [hfl, hFL.out] at H
          clear hfl hq
          go_wp2_with fail
          go_ret
          exact ⟨_, rfl, H⟩
end Go.Proofs.Ytnebacnmbigaaaa
/- flate: the walk of the fixed codes' lengths. -/
namespace Go.Proofs.Ytnebacnmbigaaaa
open Go.RowKit

theorem fixL_flat : [List.replicate 144 (8 : Int), List.replicate 112 9, List.replicate 24 7, List.replicate 8 8].flatten = fixL := by
  simp only [List.flatten_cons, List.flatten_nil, List.append_nil]; unfold fixL; simp only [List.append_assoc]
theorem one_row {w : World} {g : Nat} {a : Int} (h : w.heap[g]? = some (.cells #[.int .i64 a] 3)) : Rd w 1 (.slice (some ⟨g, 0, none⟩) 1 1) 1 (nums [a]) := by
  refine ⟨rfl, _, _, rfl, Nat.le_refl _, by decide, by simp, fun ad had j u hu => ?_⟩
  obtain rfl := Option.some.inj had
  rw [Addr.add_lit, Nat.zero_add, cell_of_block h]
  have : j = 0 := by have := (List.getElem?_eq_some_iff.1 hu).1; simpa [nums] using this
  subst this
  exact hu

set_option maxRecDepth 100000 in
set_option maxHeartbeats 3200000 in
theorem fixed_any (w : World) : Calls Try.prog 16 #[] w (Ret fun r w' => ∃ v u, r = .tuple #[v, u] ∧ Own w w' [slc 3 1 u 32 (nums fixD), slc 3 1 v 288 (nums fixL)]) := by
  have H := Own.start w
  go_enter Try.func16, Try.ntmps16
  go_wp2_with fail
  refine (repeat_any 144 (one_row (H.alloc (.cells #[.int .i64 8] 3)).block.1) (by omega)).mono ?_
  rintro e w1 ⟨v1, rfl, H1⟩
  have H := (H.alloc (.cells #[.int .i64 8] 3)).drop.join H1
  obtain ⟨a1, c1, rfl, -⟩ := H.rd.shape
  clear H1
  go_wp2_with fail
  refine (repeat_any 112 (one_row (H.alloc (.cells #[.int .i64 9] 3)).block.1) (by omega)).mono ?_
  rintro e w2 ⟨v2, rfl, H2⟩
  have H := (H.alloc (.cells #[.int .i64 9] 3)).drop.join H2
  obtain ⟨a2, c2, rfl, -⟩ := H.rd.shape
  clear H2
  go_wp2_with fail
  refine (repeat_any 24 (one_row (H.alloc (.cells #[.int .i64 7] 3)).block.1) (by omega)).mono ?_
  rintro e w3 ⟨v3, rfl, H3⟩
  have H := (H.alloc (.cells #[.int .i64 7] 3)).drop.join H3
  obtain ⟨a3, c3, rfl, -⟩ := H.rd.shape
  clear H3
  go_wp2_with fail
  refine (repeat_any 8 (one_row (H.alloc (.cells #[.int .i64 8] 3)).block.1) (by omega)).mono ?_
  rintro e w4 ⟨v4, rfl, H4⟩
  have H := (H.alloc (.cells #[.int .i64 8] 3)).drop.join H4
  obtain ⟨a4, c4, rfl, -⟩ := H.rd.shape
  clear H4
  go_wp2_with fail
  have H5 := H.alloc (.cells #[.slice a1 144 c1, .slice a2 112 c2, .slice a3 24 c3, .slice a4 8 c4] 31)
  have hrow : Rd (w4.alloc (.cells #[.slice a1 144 c1, .slice a2 112 c2, .slice a3 24 c3, .slice a4 8 c4] 31)) 1 (.slice (some ⟨w4.heap.size, 0, none⟩) 4 4) 4 [.slice a1 144 c1, .slice a2 112 c2, .slice a3 24 c3, .slice a4 8 c4] := by
    refine ⟨rfl, _, _, rfl, Nat.le_refl _, by decide, by simp, fun ad had j u hu => ?_⟩
    obtain rfl := Option.some.inj had
    rw [Addr.add_lit, Nat.zero_add, H5.cell]
    simpa using hu
  have h8 := (H5.front 1 rfl).rd
  have h24 := (H5.front 2 rfl).rd
  have h112 := (H5.front 3 rfl).rd
  have h144 := (H5.front 4 rfl).rd
  have hcc := concat_any [List.replicate 144 (8 : Int), List.replicate 112 9, List.replicate 24 7, List.replicate 8 8] [.slice a1 144 c1, .slice a2 112 c2, .slice a3 24 c3, .slice a4 8 c4] hrow rfl rfl (by omega) (fun k u L hu hL => by
    match k with
    | 0 => cases hu; cases hL; exact h144
    | 1 => cases hu; cases hL; exact h112
    | 2 => cases hu; cases hL; exact h24
    | 3 => cases hu; cases hL; exact h8
    | k + 4 => cases hu) (by rw [fixL_flat, fixL_ok.1]; omega)
  rw [fixL_flat, fixL_ok.1] at hcc
  refine hcc.mono ?_
  rintro e w5 ⟨v5, rfl, H6⟩
  have H := H5.bare.join H6
  obtain ⟨a5, c5, rfl, -⟩ := H.rd.shape
  clear H6 H5 hcc hrow h8 h24 h112 h144
  go_wp2_with fail
  refine (repeat_any 32 (one_row (H.alloc (.cells #[.int .i64 5] 3)).block.1) (by omega)).mono ?_
  rintro e w6 ⟨v6, rfl, H6⟩
  have H := (H.alloc (.cells #[.int .i64 5] 3)).drop.join H6
  obtain ⟨a6, c6, rfl, -⟩ := H.rd.shape
  clear H6
  go_wp2_with fail
  go_ret2
  exact ⟨_, rfl, _, _, rfl, H⟩
end Go.Proofs.Ytnebacnmbigaaaa
