/-
  Texts of this claim, one behind the other: inflate; As XTrk; inflate; inflate; inflate, the document's; inflate; An array of ints by value, read at an index; inflate; inflate.
-/
import Derived.Test.YtnebacnmbigaaaaIe4
import Derived.OwnWalk
set_option linter.unusedVariables false
/- inflate: the walk of fixed. -/
namespace Go.Proofs.Ytnebacnmbigaaaa
open Go.RowKit

theorem fixTab_eq : fixTab = (fixL, fixD) := by
  unfold fixTab fixL fixD
  rfl
theorem fix_terr : terrF fixL = 0 ∧ terrF fixD = 0 := by decide +kernel
theorem fix_ok : TabOk fixL ∧ TabOk fixD := by
  refine ⟨⟨?_, by decide +kernel, by decide +kernel⟩, ⟨?_, by decide +kernel, by decide +kernel⟩⟩
  · have : fixL.all (fun x => decide (0 ≤ x ∧ x ≤ 15)) = true := by decide +kernel
    intro x hx
    simpa using List.all_eq_true.1 this x hx
  · have : fixD.all (fun x => decide (0 ≤ x ∧ x ≤ 15)) = true := by decide +kernel
    intro x hx
    simpa using List.all_eq_true.1 this x hx
set_option maxRecDepth 100000 in
set_option maxHeartbeats 3200000 in
theorem infixed_any (w : World) : Calls Try.prog 32 #[] w (Ret fun r w' => ∃ a b, r = .tuple #[.pointer (some ⟨a, 0, none⟩), .pointer (some ⟨b, 0, none⟩)] ∧ Own w w' [Tbl b fixD, Tbl a fixL]) := by
  have H := Own.start w
  go_enter Try.func32, Try.ntmps32
  go_wp2_with fail
  refine (repeat_any 144 (one_row (H.alloc (.cells #[.int .i64 8] 3)).block.1) (by omega)).mono ?_
  rintro e w1 ⟨v1, rfl, H1⟩
  have H := (H.alloc (.cells #[.int .i64 8] 3)).drop.join H1
  obtain ⟨a1, c1, rfl, -⟩ := H.rd.shape
  clear H1
  go_wp2_with fail
  refine (repeat_any 112 (one_row (H.alloc (.cells #[.int .i64 9] 3)).block.1) (by omega)).mono ?_
  rintro e w2 ⟨v2, rfl, H2⟩
  have H := (H.alloc (.cells #[.int .i64 9] 3)).drop.join H2
  obtain ⟨a2, c2, rfl, -⟩ := H.rd.shape
  clear H2
  go_wp2_with fail
  refine (repeat_any 24 (one_row (H.alloc (.cells #[.int .i64 7] 3)).block.1) (by omega)).mono ?_
  rintro e w3 ⟨v3, rfl, H3⟩
  have H := (H.alloc (.cells #[.int .i64 7] 3)).drop.join H3
  obtain ⟨a3, c3, rfl, -⟩ := H.rd.shape
  clear H3
  go_wp2_with fail
  refine (repeat_any 8 (one_row (H.alloc (.cells #[.int .i64 8] 3)).block.1) (by omega)).mono ?_
  rintro e w4 ⟨v4, rfl, H4⟩
  have H := (H.alloc (.cells #[.int .i64 8] 3)).drop.join H4
  obtain ⟨a4, c4, rfl, -⟩ := H.rd.shape
  clear H4
  go_wp2_with fail
  have H5 := H.alloc (.cells #[.slice a1 144 c1, .slice a2 112 c2, .slice a3 24 c3, .slice a4 8 c4] 31)
  have hrow : Rd (w4.alloc (.cells #[.slice a1 144 c1, .slice a2 112 c2, .slice a3 24 c3, .slice a4 8 c4] 31)) 1 (.slice (some ⟨w4.heap.size, 0, none⟩) 4 4) 4 [.slice a1 144 c1, .slice a2 112 c2, .slice a3 24 c3, .slice a4 8 c4] := by
    refine ⟨rfl, _, _, rfl, Nat.le_refl _, by decide, by simp, fun ad had j u hu => ?_⟩
    obtain rfl := Option.some.inj had
    rw [Addr.add_lit, Nat.zero_add, H5.cell]
    simpa using hu
  have h8 := (H5.front 1 rfl).rd
  have h24 := (H5.front 2 rfl).rd
  have h112 := (H5.front 3 rfl).rd
  have h144 := (H5.front 4 rfl).rd
  have hcc := concat_any [List.replicate 144 (8 : Int), List.replicate 112 9, List.replicate 24 7, List.replicate 8 8] [.slice a1 144 c1, .slice a2 112 c2, .slice a3 24 c3, .slice a4 8 c4] hrow rfl rfl (by omega) (fun k u L hu hL => by
    match k with
    | 0 => cases hu; cases hL; exact h144
    | 1 => cases hu; cases hL; exact h112
    | 2 => cases hu; cases hL; exact h24
    | 3 => cases hu; cases hL; exact h8
    | k + 4 => cases hu) (by rw [fixL_flat, fixL_ok.1]; omega)
  rw [fixL_flat, fixL_ok.1] at hcc
  refine hcc.mono ?_
  rintro e w5 ⟨v5, rfl, H6⟩
  have H7 : Own w w5 [slc 3 1 v5 288 (nums fixL)] := H5.bare.join H6
  obtain ⟨a5, c5, rfl, -⟩ := H7.rd.shape
  clear H6 H5 hcc hrow h8 h24 h112 h144 H
  go_wp2_with fail
  refine (hnew_any H7.rd (by omega)).mono ?_
  rintro e w6 ⟨_, rfl, pv, rfl, -, hn2⟩
  rw [fix_terr.1]
  obtain ⟨g, rfl, H8⟩ := hn2 fix_terr.1
  have H := H7.drop.join H8
  clear H8 H7 hn2
  go_wp2_with fail
  refine (repeat_any 32 (one_row (H.alloc (.cells #[.int .i64 5] 3)).block.1) (by omega)).mono ?_
  rintro e w7 ⟨v6, rfl, H6⟩
  have H7 := (H.alloc (.cells #[.int .i64 5] 3)).drop.join H6
  obtain ⟨a6, c6, rfl, -⟩ := H7.rd.shape
  clear H6 H
  go_wp2_with fail
  refine (hnew_any (F := fixD) H7.rd (by omega)).mono ?_
  rintro e w8 ⟨_, rfl, pv, rfl, -, hn2⟩
  rw [fix_terr.2]
  obtain ⟨g2, rfl, H8⟩ := hn2 fix_terr.2
  have H := H7.drop.join H8
  clear H8 H7 hn2
  go_wp2_with fail
  go_ret2
  exact ⟨_, rfl, _, _, rfl, H⟩
end Go.Proofs.Ytnebacnmbigaaaa
/- As XTrk: of each operation it is told that the tracked ones it waits for were done. No program in sight. (Written by tools/trd.py.) -/
namespace Go.Proofs.Ytnebacnmbigaaaa.Trd
open Go.RowKit

def trk (tw : List Nat) (i : Nat) (v : Value) (σ : Sig) : Sig := if i ∈ tw then σ.upd i v else σ
def Deps (o : Oper) (k : Nat) : Prop := ∃ e ∈ o.after, Region.binds .any e = true ∧ e.on = k
/-- In every world that meets S the operation yields v, and S holds behind it. -/
def Calm1 (P : Program) (S : Sig → World → Prop) (tw : List Nat) (i : Nat) (o : Oper) (a : Act) (v : Value) : Prop :=
  ∀ σ w, S σ w → (i ∈ tw → σ i = none) → (∀ k ∈ tw, Deps o k → (σ k).isSome = true) → ∀ (K : Act → World → Prop) (Q : Exit → Act → World → Prop), (∀ w', S (trk tw i v σ) w' → K (a.put o.dst v) w') → o.wp P a w K Q

def New1 (P : Program) (S : Sig → World → Prop) (tw : List Nat) (i : Nat) (o : Oper) (a : Act) : Prop :=
  ∀ σ w, S σ w → (∀ k ∈ tw, Deps o k → (σ k).isSome = true) → ∀ (K : Act → World → Prop) (Q : Exit → Act → World → Prop), (∀ v w', S (σ.upd i v) w' → K (a.put o.dst v) w') → o.wp P a w K Q

def calm (P : Program) (ops : Array Oper) (S : Sig → World → Prop) (nw tw : List Nat) (R : Act → Prop) : Nat → List Oper → Act → Prop
  | _, [], a => R a
  | i, o :: rest, a => (i ∈ nw ∧ New1 P S tw i o a ∧ calm P ops S nw tw R (i + 1) rest a) ∨
      (i ∉ nw ∧ Region.wanted o (yielded ops a.tmps) = true ∧ ∃ v, Calm1 P S tw i o a v ∧ calm P ops S nw tw R (i + 1) rest (a.put o.dst v)) ∨
      (i ∉ nw ∧ Region.wanted o (yielded ops a.tmps) = false ∧ calm P ops S nw tw R (i + 1) rest (a.put o.dst undef))

section
variable {P : Program} {ops : Array Oper} {S : Sig → World → Prop} {nw tw : List Nat} {R : Act → Prop} {a : Act} {o : Oper} {rest : List Oper} {i : Nat}
theorem calm_nil (h : R a) : calm P ops S nw tw R i [] a := h
theorem calm_step (v : Value) (hi : i ∉ nw) (hw : Region.wanted o (yielded ops a.tmps) = true)
    (h1 : ∀ σ w, S σ w → (i ∈ tw → σ i = none) → (∀ k ∈ tw, Deps o k → (σ k).isSome = true) → ∀ (K : Act → World → Prop) (Q : Exit → Act → World → Prop), (∀ w', S (trk tw i v σ) w' → K (a.put o.dst v) w') → o.wp P a w K Q) (h : calm P ops S nw tw R (i + 1) rest (a.put o.dst v)) : calm P ops S nw tw R i (o :: rest) a := .inr (.inl ⟨hi, hw, v, h1, h⟩)
theorem calm_skip (hi : i ∉ nw) (hw : Region.wanted o (yielded ops a.tmps) = false)
    (h : calm P ops S nw tw R (i + 1) rest (a.put o.dst undef)) : calm P ops S nw tw R i (o :: rest) a := .inr (.inr ⟨hi, hw, h⟩)
theorem calm_new (hi : i ∈ nw)
    (h1 : ∀ σ w, S σ w → (∀ k ∈ tw, Deps o k → (σ k).isSome = true) → ∀ (K : Act → World → Prop) (Q : Exit → Act → World → Prop), (∀ v w', S (σ.upd i v) w' → K (a.put o.dst v) w') → o.wp P a w K Q) (h : calm P ops S nw tw R (i + 1) rest a) : calm P ops S nw tw R i (o :: rest) a := .inl ⟨hi, h1, h⟩
end

section
variable {P : Program} {ops : Array Oper} {S : Sig → World → Prop} {nw tw : List Nat}
theorem calm_frames {R : Act → Prop} : ∀ (l : List Oper) (i : Nat) (a : Act), calm P ops S nw tw R i l a →
    ∃ vs : List Value, vs.length = l.length ∧ R (frames ((dets nw i l).zip vs) a) ∧
      ∀ k o, l[k]? = some o → ∃ v, vs[k]? = some v ∧
        ((i + k ∈ nw ∧ New1 P S tw (i + k) o (frames (((dets nw i l).zip vs).take k) a)) ∨
         (i + k ∉ nw ∧ Region.wanted o (yielded ops (frames (((dets nw i l).zip vs).take k) a).tmps) = true ∧ Calm1 P S tw (i + k) o (frames (((dets nw i l).zip vs).take k) a) v) ∨
         (i + k ∉ nw ∧ Region.wanted o (yielded ops (frames (((dets nw i l).zip vs).take k) a).tmps) = false ∧ v = undef)) := by
  intro l
  induction l with
  | nil => intro i a h; exact ⟨[], rfl, h, fun k o hk => by simp at hk⟩
  | cons o l ih =>
    intro i a h
    have step : ∀ (v : Value) (a' : Act), a' = a.put (if i ∈ nw then none else o.dst) v → calm P ops S nw tw R (i + 1) l a' →
        ((i ∈ nw ∧ New1 P S tw i o a) ∨ (i ∉ nw ∧ Region.wanted o (yielded ops a.tmps) = true ∧ Calm1 P S tw i o a v) ∨ (i ∉ nw ∧ Region.wanted o (yielded ops a.tmps) = false ∧ v = undef)) → ∃ vs : List Value, vs.length = (o :: l).length ∧ R (frames ((dets nw i (o :: l)).zip vs) a) ∧
      ∀ k o', (o :: l)[k]? = some o' → ∃ v, vs[k]? = some v ∧
        ((i + k ∈ nw ∧ New1 P S tw (i + k) o' (frames (((dets nw i (o :: l)).zip vs).take k) a)) ∨
         (i + k ∉ nw ∧ Region.wanted o' (yielded ops (frames (((dets nw i (o :: l)).zip vs).take k) a).tmps) = true ∧ Calm1 P S tw (i + k) o' (frames (((dets nw i (o :: l)).zip vs).take k) a) v) ∨
         (i + k ∉ nw ∧ Region.wanted o' (yielded ops (frames (((dets nw i (o :: l)).zip vs).take k) a).tmps) = false ∧ v = undef)) := by
      intro v a' ha hc h0
      obtain ⟨vs, hl, hR, hk⟩ := ih _ _ hc
      refine ⟨v :: vs, by simp [hl], by rw [ha] at hR; exact hR, fun k o' hk' => ?_⟩
      cases k with
      | zero => simp at hk'; subst hk'; exact ⟨v, rfl, h0⟩
      | succ k =>
        have := hk k o' (by simpa using hk')
        rw [ha, show i + 1 + k = i + (k + 1) by omega] at this
        exact this
    rcases h with ⟨hi, h1, h2⟩ | ⟨hi, hw, v, h1, h2⟩ | ⟨hi, hw, h2⟩
    · exact step undef a (by rw [if_pos hi]; rfl) h2 (.inl ⟨hi, h1⟩)
    · exact step v _ (by rw [if_neg hi]) h2 (.inr (.inl ⟨hi, hw, h1⟩))
    · exact step undef _ (by rw [if_neg hi]) h2 (.inr (.inr ⟨hi, hw, rfl⟩))

theorem Calm1.at {tw : List Nat} {i : Nat} {o : Oper} {a a' : Act} {v : Value} (h : Calm1 P S tw i o a v) (he : execOp a'.eval o = execOp a.eval o) (hs : a.tmps.size = a'.tmps.size) {σ : Sig} {w : World} (hw : S σ w) (hfr : i ∈ tw → σ i = none) (hdp : ∀ k ∈ tw, Deps o k → (σ k).isSome = true)
    (K : Act → World → Prop) (Q : Exit → Act → World → Prop) (hK : ∀ w', S (trk tw i v σ) w' → K (a'.put o.dst v) w') : o.wp P a' w K Q := by
  have h1 := h σ w hw hfr hdp (fun a1 w1 => a1 = a.put o.dst v ∧ S (trk tw i v σ) w1) (fun _ _ _ => False) (fun w' hw' => ⟨rfl, hw'⟩)
  unfold Oper.wp at *
  rw [he]
  generalize (execOp a.eval o).run P w = r at *
  cases r with
  | ok n w' =>
    cases n <;> simp only [Oper.upon] at h1 ⊢
    case value u => rw [put_eq hs h1.1]; exact hK _ h1.2
    case skip => rw [put_eq hs h1.1]; exact hK _ h1.2
    case defer d =>
      have := congrArg (fun x => x.defers.length) h1.1
      cases hd : o.dst <;> simp [Act.put, hd] at this
    case enter f args =>
      refine Calls.mono h1 fun e w'' he => ?_
      cases e with
      | returned u =>
        show K (a'.put o.dst u) w''
        rw [put_eq hs he.1]; exact hK _ he.2
      | panicked c => exact he.elim
      | outgrown => obtain ⟨_, _, hh⟩ := he; exact hh.elim
    case row row args => exact Rows.mono h1 fun u w'' he => by rw [put_eq hs he.1]; exact hK _ he.2
  | halt x w' => cases x <;> simp only [Oper.upon] at h1 ⊢
theorem New1.at {tw : List Nat} {i : Nat} {o : Oper} {a a' : Act} (h : New1 P S tw i o a) (he : execOp a'.eval o = execOp a.eval o) (hs : a.tmps.size = a'.tmps.size) {σ : Sig} {w : World} (hw : S σ w) (hdp : ∀ k ∈ tw, Deps o k → (σ k).isSome = true)
    (K : Act → World → Prop) (Q : Exit → Act → World → Prop) (hK : ∀ v w', S (σ.upd i v) w' → K (a'.put o.dst v) w') : o.wp P a' w K Q := by
  have h1 := h σ w hw hdp (fun a1 w1 => ∃ v, a1 = a.put o.dst v ∧ S (σ.upd i v) w1) (fun _ _ _ => False) (fun v w' hw' => ⟨v, rfl, hw'⟩)
  unfold Oper.wp at *
  rw [he]
  generalize (execOp a.eval o).run P w = r at *
  cases r with
  | ok n w' =>
    cases n <;> simp only [Oper.upon] at h1 ⊢
    case value u => obtain ⟨v, e1, e2⟩ := h1; rw [put_eq hs e1]; exact hK _ _ e2
    case skip => obtain ⟨v, e1, e2⟩ := h1; rw [put_eq hs e1]; exact hK _ _ e2
    case defer d =>
      obtain ⟨v, e1, e2⟩ := h1
      have := congrArg (fun x => x.defers.length) e1
      cases hd : o.dst <;> simp [Act.put, hd] at this
    case enter f args =>
      refine Calls.mono h1 fun e w'' he => ?_
      cases e with
      | returned u =>
        show K (a'.put o.dst u) w''
        obtain ⟨v, e1, e2⟩ := he
        rw [put_eq hs e1]; exact hK _ _ e2
      | panicked c => exact he.elim
      | outgrown => obtain ⟨_, _, hh⟩ := he; exact hh.elim
    case row row args => exact Rows.mono h1 fun u w'' he => by obtain ⟨v, e1, e2⟩ := he; rw [put_eq hs e1]; exact hK _ _ e2
  | halt x w' => cases x <;> simp only [Oper.upon] at h1 ⊢
theorem wpAny_new {Q : Exit → Act → World → Prop} {a a0 : Act} {w : World} {l : List Oper} (S : Sig → World → Prop) (n : Nat) (nw tw : List Nat) (pre : List Nat) (htw : ∀ k ∈ tw, k < n ∧ k ∉ nw ∧ k ∉ pre ∧ ∀ o, l[k]? = some o → o.guard = none) (hpd0 : ∀ p ∈ pre, ∀ o, l[p]? = some o → ∀ k ∈ tw, ¬ Deps o k) (hok : calmOk l.toArray n nw pre = true) (hS : S Sig.no w)
    (h : calm P l.toArray S nw tw (fun a' => ∀ σ w', (∀ k ∈ nw, (σ k).isSome = true) → (∀ k ∈ tw, (σ k).isSome = true) → S σ w' → wpList P l.toArray Q (l.drop n) (putNew l nw σ a') w') 0 (l.take n) a)
    (listed0 : Array Bool) (hs0 : listed0.size = l.length) (hl0 : ∀ k, k < l.length → listed0.getD k true = true → k ∈ pre) (hp0 : ∀ p ∈ pre, listed0.getD p true = true)
    (ha0 : PreRun P l pre a a0) :
    wpAny P .any l.toArray Q (left listed0) listed0 a0 w := by
  have g := good_of hok
  have hnl : n ≤ l.length := by simpa using g.le
  obtain ⟨vs, hvl, hR, hk⟩ := calm_frames _ _ _ h
  have hvn : vs.length = n := by simp [hvl, hnl]
  obtain ⟨D, hD⟩ : ∃ D, (dets nw 0 (l.take n)).zip vs = D := ⟨_, rfl⟩
  rw [hD] at hR hk
  simp only [Nat.zero_add] at hk
  have hDl : D.length = n := by rw [← hD]; simp [dets_length, hvn, hnl]
  have hget : ∀ k, k < n → (dets nw 0 (l.take n))[k]? = (l[k]?).map fun o => if k ∈ nw then none else o.dst := by
    intro k hk
    rw [dets_get]
    simp [hk]
  -- the k-th of D
  have hDk : ∀ (k : Nat) (o : Oper) (v : Value), k < n → k ∉ nw → l[k]? = some o → vs[k]? = some v → D[k]? = some (o.dst, v) := by
    intro k o v hkn hnk ho hv
    rw [← hD, List.getElem?_zip_eq_some]
    refine ⟨?_, hv⟩
    rw [hget k hkn, ho]
    simp [hnk]
  have hDd : ∀ (k : Nat) (t : Tmp) (v : Value), D[k]? = some (some t, v) → k < n ∧ k ∉ nw ∧ ∃ o, l[k]? = some o ∧ o.dst = some t := by
    intro k t v hk
    have hkn : k < n := by rw [← hDl]; exact (List.getElem?_eq_some_iff.1 hk).1
    rw [← hD, List.getElem?_zip_eq_some] at hk
    obtain ⟨h1, _⟩ := hk
    rw [hget k hkn, Option.map_eq_some_iff] at h1
    obtain ⟨o, ho, hd⟩ := h1
    by_cases hnk : k ∈ nw
    · simp [hnk] at hd
    · rw [if_neg hnk] at hd
      exact ⟨hkn, hnk, o, ho, hd⟩
  have huniq : ∀ (j k : Nat) (t : Tmp) (u v : Value), k ≠ j → D[k]? = some (some t, u) → D[j]? ≠ some (some t, v) := by
    intro j k t u v hkj h1 h2
    obtain ⟨hkn, _, ok, hok', hdk⟩ := hDd k _ u h1
    obtain ⟨hjn, _, oj, hoj, hdj⟩ := hDd j _ v h2
    exact (g.pair k j ok oj t hkn hjn hkj (by simpa using hok') (by simpa using hoj) hdk).1 hdj
  -- .. with the new ones' values
  obtain ⟨F, hF⟩ : ∃ F : Sig → Nat → Option (Option Tmp × Value), ∀ σ k, F σ k = if k ∈ nw then (l[k]?).map fun o => (o.dst, (σ k).getD undef) else D[k]? := ⟨_, fun _ _ => rfl⟩
  have hFd : ∀ (σ : Sig) (k : Nat) (t : Tmp) (v : Value), F σ k = some (some t, v) → k < n ∧ ∃ o, l[k]? = some o ∧ o.dst = some t := by
    intro σ k t v hk
    rw [hF] at hk
    by_cases hnk : k ∈ nw
    · rw [if_pos hnk, Option.map_eq_some_iff] at hk
      obtain ⟨o, ho, hd⟩ := hk
      exact ⟨g.newLt k hnk, o, ho, by simp at hd; exact hd.1⟩
    · rw [if_neg hnk] at hk
      obtain ⟨h1, _, h3⟩ := hDd k t v hk
      exact ⟨h1, h3⟩
  have hFu : ∀ (σ : Sig) (j k : Nat) (t : Tmp) (u v : Value), k ≠ j → F σ k = some (some t, u) → F σ j ≠ some (some t, v) := by
    intro σ j k t u v hkj h1 h2
    obtain ⟨hkn, ok, hok', hdk⟩ := hFd σ k _ u h1
    obtain ⟨hjn, oj, hoj, hdj⟩ := hFd σ j _ v h2
    exact (g.pair k j ok oj t hkn hjn hkj (by simpa using hok') (by simpa using hoj) hdk).1 hdj
  have hend : ∀ (E : Nat → Prop) (a' : Act) (σ : Sig), (∀ k, k < n → E k) → Agree (F σ) E a a' → a' = putNew l nw σ (frames D a) := by
    intro E a' σ hall hA
    have hB := agree_frames D huniq a n (by omega)
    rw [List.take_of_length_le (by omega)] at hB
    obtain ⟨k1, k2⟩ := putNew_keeps l σ nw (frames D a)
    refine act_ext ?_ (hA.defers.trans (hB.defers.symm.trans k1.symm))
    apply Array.ext_getElem?
    intro t
    by_cases hts : t < a.tmps.size
    · by_cases hw : ∃ (k : Nat) (v : Value), F σ k = some (some t, v)
      · obtain ⟨k, v, hkv⟩ := hw
        obtain ⟨hkn, o, ho, hd⟩ := hFd σ k _ v hkv
        rw [hA.wrote k t v (hall k hkn) hkv hts]
        have hkv' := hkv
        rw [hF] at hkv
        by_cases hnk : k ∈ nw
        · rw [if_pos hnk, ho] at hkv
          simp at hkv
          rw [putNew_new l σ t k nw _ hnk (by simp [ho, hd]) (fun j hj hdj => ?_) (by rw [hB.size]; exact hts), hkv.2]
          by_cases hjk : j = k
          · exact hjk
          · exfalso
            cases hlj : l[j]? with
            | none => rw [hlj] at hdj; cases hdj
            | some oj =>
              rw [hlj] at hdj
              refine hFu σ j k t v ((σ j).getD undef) (Ne.symm hjk) hkv' ?_
              rw [hF, if_pos hj, hlj]
              simp at hdj
              simp [hdj]
        · rw [if_neg hnk] at hkv
          rw [putNew_old l σ t nw _ fun j hj hdj => ?_, hB.wrote k t v hkn hkv hts]
          cases hlj : l[j]? with
          | none => rw [hlj] at hdj; cases hdj
          | some oj =>
            rw [hlj] at hdj
            refine hFu σ j k t v ((σ j).getD undef) (fun e => hnk (e ▸ hj)) hkv' ?_
            rw [hF, if_pos hj, hlj]
            simp at hdj
            simp [hdj]
      · rw [hA.kept t fun k v _ hkv => hw ⟨k, v, hkv⟩, putNew_old l σ t nw _ fun j hj hdj => ?_, hB.kept t fun k v _ hkv => ?_]
        · obtain ⟨_, hnk, _⟩ := hDd k t v hkv
          exact hw ⟨k, v, by rw [hF, if_neg hnk]; exact hkv⟩
        · cases hlj : l[j]? with
          | none => rw [hlj] at hdj; cases hdj
          | some oj =>
            rw [hlj] at hdj
            refine hw ⟨j, (σ j).getD undef, ?_⟩
            rw [hF, if_pos hj, hlj]
            simp at hdj
            simp [hdj]
    · rw [Array.getElem?_eq_none (show a'.tmps.size ≤ t from by rw [hA.size]; exact Nat.le_of_not_lt hts), Array.getElem?_eq_none (show (putNew l nw σ (frames D a)).tmps.size ≤ t from by rw [k2, hB.size]; exact Nat.le_of_not_lt hts)]
  have main : ∀ (fuel : Nat) (listed : Array Bool) (a' : Act) (w' : World) (σ : Sig), listed.size = l.length → left listed = fuel → (∀ j, n ≤ j → j < l.length → listed.getD j true = false) →
      (∀ k o, k < l.length → listed.getD k true = true → l[k]? = some o → ∀ e ∈ o.after, Region.binds .any e = true → listed.getD e.on false = true) →
      (∀ k ∈ nw, listed.getD k true = true → (σ k).isSome = true) → (∀ k ∈ tw, (listed.getD k true = true → (σ k).isSome = true) ∧ (listed.getD k true = false → σ k = none)) → (∀ p ∈ pre, listed.getD p true = true) →
      Agree (F σ) (fun k => k < n ∧ listed.getD k true = true) a a' → S σ w' → wpAny P .any l.toArray Q fuel listed a' w' := by
    intro fuel
    induction fuel with
    | zero =>
      intro listed a' w' σ hs hl ht hc hσ hτ hP hA hSw
      have hall : ∀ k, k < l.length → listed.getD k true = true := fun k hk => by
        cases hkk : listed.getD k true with
        | true => rfl
        | false => have := left_pos (j := k) (by omega) hkk; omega
      have hn : n = l.length := by
        rcases Nat.lt_or_ge n l.length with h | h
        · have := hall n h; rw [ht n (Nat.le_refl _) h] at this; cases this
        · omega
      refine tail_any g 0 n listed a' w' hs (Nat.le_refl _) (fun k _ hk => hall k hk) ht hl ?_
      rw [hend _ a' σ (fun k hk => ⟨hk, hall k (by omega)⟩) hA]
      exact hR σ w' (fun k hk => hσ k hk (hall k (by have := g.newLt k hk; omega))) (fun k hk => (hτ k hk).1 (hall k (by have := (htw k hk).1; omega))) hSw
    | succ fuel ih =>
      intro listed a' w' σ hs hl ht hc hσ hτ hP hA hSw
      by_cases hpre : ∀ k, k < n → listed.getD k true = true
      · refine tail_any g (fuel + 1) n listed a' w' hs (Nat.le_refl _) (fun k hk _ => hpre k hk) ht hl ?_
        rw [hend _ a' σ (fun k hk => ⟨hk, hpre k hk⟩) hA]
        exact hR σ w' (fun k hk => hσ k hk (hpre k (g.newLt k hk))) (fun k hk => (hτ k hk).1 (hpre k (htw k hk).1)) hSw
      · -- the least that is not listed is ready
        have hex : ∃ k, k < n ∧ listed.getD k true = false := by
          rcases Classical.em (∃ k, k < n ∧ listed.getD k true = false) with h | h
          · exact h
          · exact absurd (fun k hk => by
              cases hkk : listed.getD k true with
              | true => rfl
              | false => exact absurd ⟨k, hk, hkk⟩ h) hpre
        obtain ⟨m, hm, hmin⟩ : ∃ m, (m < n ∧ listed.getD m true = false) ∧ ∀ k, k < m → listed.getD k true = true := by
          obtain ⟨k, hk⟩ := hex
          induction k using Nat.strongRecOn with
          | _ k ihk =>
            rcases Classical.em (∃ j, j < k ∧ listed.getD j true = false) with ⟨j, hj, hjl⟩ | h
            · exact ihk j hj ⟨by omega, hjl⟩
            · refine ⟨k, hk, fun j hj => ?_⟩
              cases hjj : listed.getD j true with
              | true => rfl
              | false => exact absurd ⟨j, hj, hjj⟩ h
        obtain ⟨om, hom⟩ : ∃ o, l[m]? = some o := ⟨_, List.getElem?_eq_getElem (by omega)⟩
        have hready : m ∈ Region.ready .any l.toArray listed := mem_ready.2 ⟨by simp; omega, hm.2, om, by simpa using hom, fun e he hb => by
          have := g.low m om (by simpa using hom) e he hb
          rw [← getD_tf (by omega)]
          exact hmin _ this⟩
        refine ⟨fun h => (by rw [h] at hready; cases hready), fun i hi => ?_⟩
        obtain ⟨hi1, hi2, o, ho, hi3⟩ := mem_ready.1 hi
        have hi1 : i < l.length := by simpa using hi1
        have hol : l[i]? = some o := by simpa using ho
        have hin : i < n := by
          rcases Nat.lt_trichotomy i n with h | h | h
          · exact h
          · -- all that it waits for, and so all, are listed
            subst h
            have hall : ∀ d k, i - k = d → k < i → listed.getD k true = true := by
              intro d
              induction d using Nat.strongRecOn with
              | _ d ihd =>
                intro k hd hk
                by_cases hpk : k ∈ pre
                · exact hP k hpk
                obtain ⟨j, hkj, hji, oj, hoj, hwj⟩ := g.sink (by simpa using hi1) k hk hpk
                obtain ⟨e, he, hb, heq⟩ := waits_spec hwj
                rw [getD_tf (by omega), ← heq]
                rcases Nat.lt_or_ge j i with hlt | hge
                · have hjl := ihd (i - j) (by omega) j rfl hlt
                  exact hc j oj (by omega) hjl (by simpa using hoj) e he hb
                · have : j = i := by omega
                  subst this
                  rw [ho] at hoj
                  cases hoj
                  exact hi3 e he hb
            have := hall _ m rfl hm.1
            rw [hm.2] at this
            cases this
          · obtain ⟨e, he, hb, heq⟩ := waits_spec (g.chain i o h (by simpa using hol))
            have := hi3 e he hb
            rw [heq, ← getD_tf (by omega), ht (i - 1) (by omega) (by omega)] at this
            cases this
        obtain ⟨v, hv, hcase⟩ := hk i o (by simp [hin, hol])
        have hAi := agree_frames D huniq a i (by omega)
        have hsame := same_op (ops := l.toArray) (o := o) (a := frames (D.take i) a) (a' := a') (g.noSel i o ho) (by
          intro t htl
          by_cases hw : ∃ (k : Nat) (u : Value), F σ k = some (some t, u)
          · obtain ⟨k, u, hku⟩ := hw
            obtain ⟨hkn, ok, hok', hdk⟩ := hFd σ k _ u hku
            have hnk : k ∉ nw := fun hnk => g.newApart k hnk ok t (by simpa using hok') hdk i o hin ho htl
            have hDu : D[k]? = some (some t, u) := by rw [hF, if_neg hnk] at hku; exact hku
            by_cases hts : t < a.tmps.size
            · have hki : k ≠ i := fun e => by
                subst e
                rw [hol] at hok'
                cases hok'
                exact g.own k o t hkn ho hdk htl
              rcases (g.pair k i ok o t hkn hin hki (by simpa using hok') ho hdk).2 with h1 | ⟨hlt, hwt⟩ | ⟨hlt, hwt⟩
              · exact absurd htl h1
              · obtain ⟨e, he, hb, heq⟩ := waits_spec hwt
                have hkl : listed.getD k true = true := by
                  rw [getD_tf (by omega), ← heq]; exact hi3 e he hb
                rw [hA.wrote k t u ⟨hkn, hkl⟩ hku hts, hAi.wrote k t u hlt hDu hts]
              · obtain ⟨e, he, hb, heq⟩ := waits_spec hwt
                have hkl : ¬ listed.getD k true = true := fun hkl => by
                  have := hc k ok (by omega) hkl hok' e he hb
                  rw [heq, ← getD_tf (by omega), hi2] at this
                  cases this
                rw [hA.kept t fun k' u' hk' hD' => ?_, hAi.kept t fun k' u' hk' hD' => ?_]
                · by_cases hkk : k' = k
                  · subst hkk; omega
                  · exact huniq k k' t u' u hkk hD' hDu
                · by_cases hkk : k' = k
                  · subst hkk; exact hkl hk'.2
                  · exact hFu σ k k' t u' u hkk hD' hku
            · rw [Array.getElem?_eq_none (show a'.tmps.size ≤ t from by rw [hA.size]; exact Nat.le_of_not_lt hts), Array.getElem?_eq_none (show (frames (D.take i) a).tmps.size ≤ t from by rw [hAi.size]; exact Nat.le_of_not_lt hts)]
          · rw [hA.kept t fun k v _ hkv => hw ⟨k, v, hkv⟩, hAi.kept t fun k v _ hkv => ?_]
            obtain ⟨_, hnk, _⟩ := hDd k t v hkv
            exact hw ⟨k, v, by rw [hF, if_neg hnk]; exact hkv⟩)
        have hset : ∀ k b, (listed.setIfInBounds i true).getD k b = if k = i then true else listed.getD k b := by
          intro k b
          by_cases hki : k = i
          · subst hki; simp [hs, hi1]
          · have : i ≠ k := Ne.symm hki
            simp [Array.getElem?_setIfInBounds_ne this, hki]
        have next : ∀ (σ' : Sig) (u : Value) w'', F σ' i = some (o.dst, u) → Agree (F σ') (fun k => k < n ∧ listed.getD k true = true) a a' → (∀ k ∈ nw, (listed.setIfInBounds i true).getD k true = true → (σ' k).isSome = true) → (∀ k ∈ tw, ((listed.setIfInBounds i true).getD k true = true → (σ' k).isSome = true) ∧ ((listed.setIfInBounds i true).getD k true = false → σ' k = none)) → S σ' w'' →
            wpAny P .any l.toArray Q fuel (listed.setIfInBounds i true) (a'.put o.dst u) w'' := by
          intro σ' u w'' hFi hA' hσ' hτ' hSw''
          refine ih _ _ w'' σ' (by simpa using hs) (by have := left_set (j := i) (by omega) hi2; omega) ?_ ?_ hσ' hτ' (fun p hp => by rw [hset]; split <;> first | rfl | exact hP p hp) ?_ hSw''
          · intro j hj hjl
            rw [hset, if_neg (by omega)]
            exact ht j hj hjl
          · intro k ok hkl hkt hok' e he hb
            rw [hset]
            split
            · rfl
            · rw [hset] at hkt
              by_cases hki : k = i
              · subst hki
                rw [hol] at hok'
                cases hok'
                exact hi3 e he hb
              · rw [if_neg hki] at hkt
                exact hc k ok hkl hkt hok' e he hb
          · have := hA'.put (j := i) hFi (fun k t u' hki hD' e => hFu σ' i k t u' u hki hD' (by rw [hFi, e]))
            refine ⟨this.defers, this.size, fun k t u hk => this.wrote k t u ?_, fun t ht => this.kept t fun k u hk => ht k u ?_⟩
            · obtain ⟨h1, h2⟩ := hk
              rw [hset] at h2
              by_cases hki : k = i
              · exact .inr hki
              · rw [if_neg hki] at h2; exact .inl ⟨h1, h2⟩
            · rw [hset]
              rcases hk with ⟨h1, h2⟩ | rfl
              · exact ⟨h1, by split <;> first | rfl | exact h2⟩
              · exact ⟨hin, by simp⟩
        have hσset : i ∉ nw → ∀ k ∈ nw, (listed.setIfInBounds i true).getD k true = true → (σ k).isSome = true := fun hni k hk hkl => by
          rw [hset, if_neg (fun (e : k = i) => hni (e ▸ hk))] at hkl
          exact hσ k hk hkl
        have hτset : i ∉ tw → ∀ k ∈ tw, ((listed.setIfInBounds i true).getD k true = true → (σ k).isSome = true) ∧ ((listed.setIfInBounds i true).getD k true = false → σ k = none) := fun hni k hk => by
          rw [hset, if_neg (fun (e : k = i) => hni (e ▸ hk))]
          exact hτ k hk
        unfold wpOp
        simp only [ho]
        rcases hcase with ⟨hni, hn1⟩ | ⟨hni, hw1, hc1⟩ | ⟨hni, hw1, rfl⟩
        · have hg := g.newPlain i hni o ho
          rw [show Region.wanted o (yielded l.toArray a'.tmps) = true by simp [Region.wanted, hg]]
          refine .inl (hn1.at hsame.1 (by rw [hAi.size, hA.size]) hSw (fun k hk ⟨e, he, hb, hek⟩ => (hτ k hk).1 (by rw [← hek]; have := hi3 e he hb; rw [getD_tf (by have := (htw k hk).1; omega)]; exact this)) _ _ fun u w'' hSu => ?_)
          refine next (σ.upd i u) u w'' (by rw [hF, if_pos hni, hol]; simp [Sig.upd]) ?_ ?_ ?_ hSu
          · have hne : ∀ k, (k < n ∧ listed.getD k true = true) → F (σ.upd i u) k = F σ k := fun k hk => by
              have hki : k ≠ i := fun e => by subst e; rw [hi2] at hk; cases hk.2
              rw [hF, hF]
              simp [Sig.upd, hki]
            exact ⟨hA.defers, hA.size, fun k t u' hk hD' => hA.wrote k t u' hk (by rw [← hne k hk]; exact hD'), fun t ht => hA.kept t fun k u' hk => by rw [← hne k hk]; exact ht k u' hk⟩
          · intro k hk hkl
            by_cases hki : k = i
            · simp [Sig.upd, hki]
            · rw [hset, if_neg hki] at hkl
              simpa [Sig.upd, hki] using hσ k hk hkl
          · intro k hk
            have hki : k ≠ i := fun e => (htw k hk).2.1 (e ▸ hni)
            rw [hset, if_neg hki]
            simpa [Sig.upd, hki] using hτ k hk
        · rw [hsame.2, hw1]
          by_cases hit : i ∈ tw
          · refine .inl (hc1.at hsame.1 (by rw [hAi.size, hA.size]) hSw (fun hit => (hτ i hit).2 hi2) (fun k hk ⟨e, he, hb, hek⟩ => (hτ k hk).1 (by rw [← hek]; have := hi3 e he hb; rw [getD_tf (by have := (htw k hk).1; omega)]; exact this)) _ _ fun w'' hSu => next (σ.upd i v) v w'' (by rw [hF, if_neg hni]; exact hDk i o v hin hni hol hv) ?_ ?_ ?_ (by rw [trk, if_pos hit] at hSu; exact hSu))
            · have hne : ∀ k, (k < n ∧ listed.getD k true = true) → F (σ.upd i v) k = F σ k := fun k hk => by
                have hki : k ≠ i := fun e => by subst e; rw [hi2] at hk; cases hk.2
                rw [hF, hF]
                simp [Sig.upd, hki]
              exact ⟨hA.defers, hA.size, fun k t u' hk hD' => hA.wrote k t u' hk (by rw [← hne k hk]; exact hD'), fun t ht => hA.kept t fun k u' hk => by rw [← hne k hk]; exact ht k u' hk⟩
            · intro k hk hkl
              by_cases hki : k = i
              · simp [Sig.upd, hki]
              · rw [hset, if_neg hki] at hkl
                simpa [Sig.upd, hki] using hσ k hk hkl
            · intro k hk
              rw [hset]
              by_cases hki : k = i
              · simp [Sig.upd, hki]
              · rw [if_neg hki]
                simpa [Sig.upd, hki] using hτ k hk
          · exact .inl (hc1.at hsame.1 (by rw [hAi.size, hA.size]) hSw (fun hit => (hτ i hit).2 hi2) (fun k hk ⟨e, he, hb, hek⟩ => (hτ k hk).1 (by rw [← hek]; have := hi3 e he hb; rw [getD_tf (by have := (htw k hk).1; omega)]; exact this)) _ _ fun w'' hSu => next σ v w'' (by rw [hF, if_neg hni]; exact hDk i o v hin hni hol hv) hA (hσset hni) (hτset hit) (by rw [trk, if_neg hit] at hSu; exact hSu))
        · rw [hsame.2, hw1]
          have hit : i ∉ tw := fun hit => by
            have := (htw i hit).2.2.2 o hol
            simp [Region.wanted, this] at hw1
          exact next σ undef w' (by rw [hF, if_neg hni]; exact hDk i o undef hin hni hol hv) hA (hσset hni) (hτset hit) hSw
  refine main _ listed0 a0 w Sig.no hs0 rfl (fun j hnj hj => ?_) (fun k o hk hkt ho e he hb => ?_) (fun k hk hkt => ?_) (fun k hk => ?_) hp0 ?_ hS
  · cases hjj : listed0.getD j true with
    | false => rfl
    | true =>
      have := (g.preAny j (hl0 j hj hjj)).1
      omega
  · obtain ⟨_, _, o', ho', _, haf⟩ := g.preAny k (hl0 k hk hkt)
    obtain rfl : o' = o := by simpa [ho] using ho'.symm
    have := g.low k o' (by simpa using ho) e he hb
    rw [← getD_tf (by omega)]
    exact hp0 _ (haf e he hb)
  · exact absurd hk (g.preAny k (hl0 k (by have := g.newLt k hk; omega) hkt)).2.1
  · exact ⟨fun hkt => absurd (hl0 k (by have := (htw k hk).1; omega) hkt) (htw k hk).2.2.1, fun _ => rfl⟩
  · have step : ∀ (r done : List Nat) (a1 : Act), (∀ x ∈ r, x ∈ pre) → preOk l.toArray n nw done r = true → PreRun P l r a1 a0 → Agree (F Sig.no) (fun k => k ∈ done) a a1 →
        (∀ k ∈ done, ∀ o, l[k]? = some o → ∀ e ∈ o.after, Region.binds .any e = true → e.on ∈ done) → Agree (F Sig.no) (fun k => k ∈ r ∨ k ∈ done) a a0 := by
      intro r
      induction r with
      | nil =>
        intro done a1 _ _ hr hA _
        obtain rfl : a0 = a1 := hr
        simpa using hA
      | cons p r ih =>
        intro done a1 hrp hpo hr hA hcl
        obtain ⟨hpn, hpw, hpd, ⟨o, hop, hgd, haf⟩, hpo'⟩ := preOk_cons hpo
        have hop : l[p]? = some o := by simpa using hop
        obtain ⟨o', v, ho', hrun, hr'⟩ := hr
        obtain rfl : o' = o := by simpa [hop] using ho'.symm
        obtain ⟨u, hu, hcase⟩ := hk p o' (by simp [hpn, hop])
        have hAi := agree_frames D huniq a p (by omega)
        have hsame := same_op (ops := l.toArray) (o := o') (a := a1) (a' := frames (D.take p) a) (g.noSel p o' (by simpa using hop)) (by
          intro t htl
          by_cases hts : t < a.tmps.size
          · by_cases hw : ∃ (k : Nat) (u : Value), F Sig.no k = some (some t, u)
            · obtain ⟨k, x, hkx⟩ := hw
              obtain ⟨hkn, ok, hok', hdk⟩ := hFd Sig.no k _ x hkx
              have hnk : k ∉ nw := fun hnk => g.newApart k hnk ok t (by simpa using hok') hdk p o' hpn (by simpa using hop) htl
              have hDu : D[k]? = some (some t, x) := by rw [hF, if_neg hnk] at hkx; exact hkx
              have hkp : k ≠ p := fun e => by
                subst e
                rw [hop] at hok'
                cases hok'
                exact g.own k o' t hkn (by simpa using hop) hdk htl
              rcases (g.pair k p ok o' t hkn hpn hkp (by simpa using hok') (by simpa using hop) hdk).2 with h1 | ⟨hlt, hwt⟩ | ⟨hlt, hwt⟩
              · exact absurd htl h1
              · obtain ⟨e, he, hb, heq⟩ := waits_spec hwt
                have hkd : k ∈ done := heq ▸ haf e he hb
                rw [hA.wrote k t x hkd hkx hts, hAi.wrote k t x hlt hDu hts]
              · obtain ⟨e, he, hb, heq⟩ := waits_spec hwt
                have hkd : k ∉ done := fun hkd => hpd (heq ▸ hcl k hkd ok hok' e he hb)
                rw [hA.kept t fun k' u' hk' hD' => ?_, hAi.kept t fun k' u' hk' hD' => ?_]
                · by_cases hkk : k' = k
                  · subst hkk; omega
                  · exact huniq k k' t u' x hkk hD' hDu
                · by_cases hkk : k' = k
                  · subst hkk; exact hkd hk'
                  · exact hFu Sig.no k k' t u' x hkk hD' hkx
            · rw [hA.kept t fun k v _ hkv => hw ⟨k, v, hkv⟩, hAi.kept t fun k v _ hkv => ?_]
              obtain ⟨_, hnk, _⟩ := hDd k t v hkv
              exact hw ⟨k, v, by rw [hF, if_neg hnk]; exact hkv⟩
          · rw [Array.getElem?_eq_none (show (frames (D.take p) a).tmps.size ≤ t from by rw [hAi.size]; exact Nat.le_of_not_lt hts), Array.getElem?_eq_none (show a1.tmps.size ≤ t from by rw [hA.size]; exact Nat.le_of_not_lt hts)])
        have hput : a1.put o'.dst v = a1.put o'.dst u := by
          rcases hcase with ⟨hni, _⟩ | ⟨_, _, hc1⟩ | ⟨_, hw1, _⟩
          · exact absurd hni hpw
          · have h1 := hc1.at (a' := a1) hsame.1.symm (by rw [hAi.size, hA.size]) hS (fun _ => rfl) (fun k hk hd => absurd hd (hpd0 p (hrp p (by simp)) o' (by simpa using hop) k hk)) (fun a2 _ => a2 = a1.put o'.dst u) (fun _ _ _ => False) (fun _ _ => rfl)
            unfold Oper.wp at h1
            rw [hrun w] at h1
            simpa only [Oper.upon] using h1
          · exfalso
            simp [Region.wanted, hgd] at hw1
        rw [hput] at hr'
        have hFp : F Sig.no p = some (o'.dst, u) := by rw [hF, if_neg hpw]; exact hDk p o' u hpn hpw hop hu
        have hA' := hA.put (j := p) hFp (fun k t u' hki hD' e => hFu Sig.no p k t u' u hki hD' (by rw [hFp, e]))
        have hA2 : Agree (F Sig.no) (fun k => k ∈ p :: done) a (a1.put o'.dst u) :=
          ⟨hA'.defers, hA'.size, fun k t x hk => hA'.wrote k t x (by
            rcases List.mem_cons.1 hk with h | h
            · exact .inr h
            · exact .inl h), fun t ht => hA'.kept t fun k x hk => ht k x (by
            rcases hk with h | h
            · exact List.mem_cons_of_mem _ h
            · exact h ▸ List.mem_cons_self ..)⟩
        have := ih (p :: done) _ (fun x hx => hrp x (by simp [hx])) hpo' hr' hA2 (fun k hk o ho e he hb => by
          rcases List.mem_cons.1 hk with rfl | hk
          · rw [hop] at ho
            cases ho
            exact List.mem_cons_of_mem _ (haf e he hb)
          · exact List.mem_cons_of_mem _ (hcl k hk o ho e he hb))
        refine ⟨this.defers, this.size, fun k t x hk => this.wrote k t x ?_, fun t ht => this.kept t fun k x hk => ht k x ?_⟩
        · rcases hk with hk | hk
          · rcases List.mem_cons.1 hk with rfl | hk
            · exact .inr (List.mem_cons_self ..)
            · exact .inl hk
          · exact .inr (List.mem_cons_of_mem _ hk)
        · rcases hk with hk | hk
          · exact .inl (List.mem_cons_of_mem _ hk)
          · rcases List.mem_cons.1 hk with rfl | hk
            · exact .inl (List.mem_cons_self ..)
            · exact .inr hk
    have h0 : Agree (F Sig.no) (fun k => k ∈ ([] : List Nat)) a a := ⟨rfl, rfl, fun k t v hk _ _ => (by cases hk), fun t _ => rfl⟩
    have := step pre [] a (fun x hx => hx) g.preOrd ha0 h0 (fun k hk => by cases hk)
    refine ⟨this.defers, this.size, fun k t x hk => this.wrote k t x (.inl (hl0 k (by omega) hk.2)), fun t ht => this.kept t fun k x hk => ht k x ?_⟩
    rcases hk with hk | hk
    · exact ⟨(g.preAny k hk).1, hp0 k hk⟩
    · cases hk

theorem wp_region_new {id : Nat} {Q : Exit → Act → World → Prop} {a : Act} {w : World} {l : List Oper} (S : Sig → World → Prop) (n : Nat) (nw tw : List Nat) (htw : ∀ k ∈ tw, k < n ∧ k ∉ nw ∧ ∀ o, l[k]? = some o → o.guard = none) (hm : P.follows .mixedOrders = true) (hok : calmOk l.toArray n nw = true) (hS : S Sig.no w.drew)
    (h : calm P l.toArray S nw tw (fun a' => ∀ σ w', (∀ k ∈ nw, (σ k).isSome = true) → (∀ k ∈ tw, (σ k).isSome = true) → S σ w' → wpList P l.toArray Q (l.drop n) (putNew l nw σ a') w') 0 (l.take n) a) : (Code.region id l.toArray true).wp P Q a w := by
  refine wp_region_any hm ?_
  have hl := left_none l.toArray.size
  have := wpAny_new (a0 := a) S n nw tw [] (fun k hk => ⟨(htw k hk).1, (htw k hk).2.1, by simp, (htw k hk).2.2⟩) (fun p hp => by cases hp) hok hS h (Array.replicate l.toArray.size false) (by simp) (fun k hk hkt => by simp [hk] at hkt) (fun p hp => by cases hp) rfl
  rw [hl] at this
  exact this


theorem calm_value {R : Act → Prop} {a : Act} {o : Oper} {rest : List Oper} {i : Nat} {v : Value} (hi : i ∉ nw) (ht : i ∉ tw) (hw : Region.wanted o (yielded ops a.tmps) = true) (h1 : ∀ σ w, S σ w → (execOp a.eval o).run P w = .ok (.value v) w) (h : calm P ops S nw tw R (i + 1) rest (a.put o.dst v)) : calm P ops S nw tw R i (o :: rest) a :=
  calm_step v hi hw (fun σ w hS _ _ K Q hK => by unfold Oper.wp; rw [h1 σ w hS]; exact hK w (by rw [trk, if_neg ht]; exact hS)) h
theorem calm_track {R : Act → Prop} {a : Act} {o : Oper} {rest : List Oper} {i : Nat} {v : Value} (hi : i ∉ nw) (ht : i ∈ tw) (hw : Region.wanted o (yielded ops a.tmps) = true) (h1 : ∀ σ w, S σ w → σ i = none → (∀ k ∈ tw, Deps o k → (σ k).isSome = true) → ∃ w', (execOp a.eval o).run P w = .ok (.value v) w' ∧ S (σ.upd i v) w') (h : calm P ops S nw tw R (i + 1) rest (a.put o.dst v)) : calm P ops S nw tw R i (o :: rest) a :=
  calm_step v hi hw (fun σ w hS hf hd K Q hK => by
    obtain ⟨w', hr, hs⟩ := h1 σ w hS (hf ht) hd
    unfold Oper.wp
    rw [hr]
    exact hK w' (by rw [trk, if_pos ht]; exact hs)) h
/-- A call whose value is known, of which S is told. -/
theorem calm_call {R : Act → Prop} {a : Act} {o : Oper} {rest : List Oper} {i : Nat} {v : Value} {f : FuncId} {args : Array Value} (hi : i ∉ nw) (hit : i ∈ tw) (hw : Region.wanted o (yielded ops a.tmps) = true) (hr : ∀ w, (execOp a.eval o).run P w = .ok (.enter f args) w)
    (hc : ∀ σ w, S σ w → σ i = none → (∀ k ∈ tw, Deps o k → (σ k).isSome = true) → Calls P f args w fun e w' => e = .returned v ∧ S (σ.upd i v) w') (h : calm P ops S nw tw R (i + 1) rest (a.put o.dst v)) : calm P ops S nw tw R i (o :: rest) a :=
  calm_step v hi hw (fun σ w hS hf hd K Q hK => by
    unfold Oper.wp
    rw [hr w]
    refine (hc σ w hS (hf hit) hd).mono ?_
    rintro e w' ⟨rfl, hS'⟩
    exact hK w' (by rw [trk, if_pos hit]; exact hS')) h
/-- A call whose value is new. -/
theorem calm_newcall {R : Act → Prop} {a : Act} {o : Oper} {rest : List Oper} {i : Nat} {f : FuncId} {args : Array Value} (hi : i ∈ nw) (hr : ∀ w, (execOp a.eval o).run P w = .ok (.enter f args) w)
    (hc : ∀ σ w, S σ w → (∀ k ∈ tw, Deps o k → (σ k).isSome = true) → Calls P f args w fun e w' => ∃ v, e = .returned v ∧ S (σ.upd i v) w') (h : calm P ops S nw tw R (i + 1) rest a) : calm P ops S nw tw R i (o :: rest) a :=
  calm_new hi (fun σ w hS hd K Q hK => by
    unfold Oper.wp
    rw [hr w]
    refine (hc σ w hS hd).mono ?_
    rintro e w' ⟨v, rfl, hS'⟩
    exact hK v w' hS') h
end
end Go.Proofs.Ytnebacnmbigaaaa.Trd
/- inflate: the walk of lengths' inner function. -/
namespace Go.Proofs.Ytnebacnmbigaaaa
open Go.RowKit

/-- A variable that holds lengths. -/
def LenP (b : Nat) (l : List Int) : Piece := ex fun v => star (blk b (.cells #[v] 31)) (slc 3 1 v l.length (nums l))
theorem Own.lenp {w0 w : World} {ps : List Piece} {b : Nat} {l : List Int} (H : Own w0 w (LenP b l :: ps)) : ∃ a c, l.length ≤ c ∧ c ≤ 9223372036854775807 ∧ Own w0 w (blk b (.cells #[.slice a l.length c] 31) :: slc 3 1 (.slice a l.length c) l.length (nums l) :: ps) := by
  obtain ⟨v, H⟩ := H.ex
  replace H := H.star
  obtain ⟨a, c, rfl, h1, h2⟩ := (H.front 1 rfl).rd.shape
  exact ⟨a, c, h1, h2, H⟩
theorem Own.unlenp {w0 w : World} {ps : List Piece} {b m : Nat} {l : List Int} {v : Value} (H : Own w0 w (blk b (.cells #[v] 31) :: slc 3 1 v m (nums l) :: ps)) (hm : m = l.length) : Own w0 w (LenP b l :: ps) := by
  subst hm
  exact Own.unex v (Own.unstar H)
/-- While a row is made, and repeated. -/
def AgS (w0 : World) (h0 : Nat) (x : Int) (k : Nat) (ps : List Piece) (σ : Sig) (w1 : World) : Prop := match σ 4 with
  | some v => (σ 2).isSome = true ∧ Own w0 w1 (slc 3 1 v k (nums (List.replicate k x)) :: blk h0 (.cells #[.int .i64 x] 3) :: ps)
  | none => if (σ 2).isSome then Own w0 w1 (blk h0 (.cells #[.int .i64 x] 3) :: ps) else Own w0 w1 ps ∧ w1.heap.size = h0
theorem AgS.own {w0 : World} {h0 : Nat} {x : Int} {k : Nat} {ps : List Piece} {σ : Sig} {w1 : World} (h : AgS w0 h0 x k ps σ w1) : Own w0 w1 ps := by
  unfold AgS at h
  split at h
  · exact h.2.drop.drop
  · split at h
    · exact h.drop
    · exact h.1

/-- What is there, and what is amiss, behind a length again. -/
def agL (N : Nat) (l : List Int) (k : Nat) (x : Int) : List Int := if N < l.length + k then l else l ++ List.replicate k x
def agE (N : Nat) (l : List Int) (k : Nat) (e : Int) : Int := if N < l.length + k then (if e = 0 then 2 else e) else e
theorem nums_append (a b : List Int) : nums a ++ nums b = nums (a ++ b) := by unfold nums; rw [List.map_append]
set_option maxRecDepth 100000 in
set_option maxHeartbeats 1600000 in
theorem inagain_any {w0 w : World} {ps : List Piece} {g rg n bN bR bL : Nat} {s : ByteArray} {l out : List Int} {most e : Int} (x : Int) (k N : Nat) (hk : k ≤ 200) (hN : N ≤ 1000) (hl : l.length ≤ N)
    (H : Own w0 w (LenP bL l :: blk bN (.cells #[.int .i64 N] 3) :: blk bR (.cells #[.pointer (some ⟨g, 0, none⟩)] 55) :: Inr g rg s n out most e :: ps)) :
    Calls Try.prog 77 #[.int .i64 x, .int .i64 k, .pointer (some ⟨bN, 0, none⟩), .pointer (some ⟨bL, 0, none⟩), .pointer (some ⟨bR, 0, none⟩)] w (Ret fun _ w' => Own w0 w' (LenP bL (agL N l k x) :: blk bN (.cells #[.int .i64 N] 3) :: blk bR (.cells #[.pointer (some ⟨g, 0, none⟩)] 55) :: Inr g rg s n out most (agE N l k e) :: ps)) := by
  obtain ⟨L', hL'⟩ : ∃ L', Hid (agL N l k x = L') := ⟨_, rfl⟩
  obtain ⟨E', hE'⟩ : ∃ E', Hid (agE N l k e = E') := ⟨_, rfl⟩
  rw [hL'.out, hE'.out]
  by_cases hlt : N < l.length + k
  · have e1 : Hid (L' = l) := Lib.hid (by rw [← hL'.out]; unfold agL; rw [if_pos hlt])
    have e2 : Hid ((if e = 0 then 2 else e) = E') := Lib.hid (by rw [← hE'.out]; unfold agE; rw [if_pos hlt])
    have HH := Lib.hid (infail_any (g := g) (rg := rg) 2 (by decide) (H.front 3 rfl))
    rw [e2.out] at HH
    obtain ⟨a, c, h1, h2, HL⟩ := H.lenp
    have c0 := HL.cells
    have c1 := (HL.front 2 rfl).cells
    have c2 := (HL.front 3 rfl).cells
    obtain ⟨M, hM⟩ : ∃ M, Hid (l.length = M) := ⟨_, rfl⟩
    rw [hM.out] at c0 hl hlt
    have hw : IntKind.i64.wrap ((N : Int) - M) = N - M := IntWalk.i64_in _ ⟨by omega, by omega⟩
    have hlt2 : (N : Int) - M < k := by omega
    go_enter Try.func77, Try.ntmps77
    go_wp2_with fail
    refine HH.out.mono ?_
    rintro e1 w1 ⟨_, rfl, H1⟩
    go_wp2
    go_end0
    rw [e1.out]
    exact ⟨_, rfl, (H1.front 3 rfl).front 3 rfl |>.front 3 rfl⟩
  · have e1 : Hid (l ++ List.replicate k x = L') := Lib.hid (by rw [← hL'.out]; unfold agL; rw [if_neg hlt])
    have e2 : Hid (e = E') := Lib.hid (by rw [← hE'.out]; unfold agE; rw [if_neg hlt])
    rw [← e2.out]
    obtain ⟨a, c, h1, h2, HL⟩ := H.lenp
    obtain ⟨M, hM⟩ : ∃ M, Hid (l.length = M) := ⟨_, rfl⟩
    rw [hM.out] at HL hl hlt
    clear H
    have c0 := HL.cells
    have c1 := (HL.front 2 rfl).cells
    have c2 := (HL.front 3 rfl).cells
    have hw : IntKind.i64.wrap ((N : Int) - M) = N - M := IntWalk.i64_in _ ⟨by omega, by omega⟩
    have hlt2 : ¬ (N : Int) - M < k := by omega
    go_enter Try.func77, Try.ntmps77
    go_upto_region 2 with (fail)
    clear c0 c1 c2 hw
    obtain ⟨PS, hPS⟩ : ∃ PS, PS = (blk bL (.cells #[.slice a M c] 31) :: slc 3 1 (.slice a M c) M (nums l) :: blk bN (.cells #[.int .i64 N] 3) :: blk bR (.cells #[.pointer (some ⟨g, 0, none⟩)] 55) :: Inr g rg s n out most e :: ps) := ⟨_, rfl⟩
    have HD0 : AgS w0 w.heap.size x k PS Sig.no w.drew := ⟨hPS ▸ HL.drew, rfl⟩
    replace hPS := Lib.hid hPS
    refine Trd.wp_region_new (AgS w0 w.heap.size x k PS) 5 [4] [2] (by intro k hk; simp at hk; subst hk; exact ⟨by omega, by simp, fun o ho => by simp at ho; subst ho; rfl⟩) (by kernel_rfl) (by kernel_rfl) HD0 ?_
    simp only [List.take_succ_cons, List.take_zero, List.drop_succ_cons, List.drop_zero]
    generalize w.heap.size = h0 at *
    have hcell : ∀ (σ : Sig) (w1 : World), AgS w0 h0 x k PS σ w1 → ∀ i, w1.cell? ⟨bL, i, none⟩ = #[Value.slice a M c][i]? := fun σ w1 hS => by
      have h := hS.own
      rw [hPS.out] at h
      exact h.cells
    replace hcell := Lib.hid hcell
    repeat
      first
      | (refine Trd.calm_value (v := ?_) (by decide) (by decide) rfl (fun σ w1 hS => ?_) ?_
         rotate_left
         · have c0 := hcell.out σ w1 hS
           first | (go_simp; rfl) | rfl
         simp only [Act.put, List.setIfInBounds_toArray, List.set_cons_zero, List.set_cons_succ])
      | (refine Trd.calm_skip (by decide) rfl ?_
         simp only [Act.put, List.setIfInBounds_toArray, List.set_cons_zero, List.set_cons_succ])
    refine Trd.calm_track (v := .slice (some ⟨h0, 0, none⟩) 1 1) (by decide) (by decide) rfl (fun σ w1 hS hn _ => ?_) ?_
    · unfold AgS at hS
      split at hS
      · rw [hn] at hS; cases hS.1
      · next h4 =>
        rw [hn, if_neg (by simp)] at hS
        obtain ⟨hS, hh⟩ := hS
        refine ⟨w1.alloc (.cells #[.int .i64 x] 3), ?_, ?_⟩
        · go_simp
        · unfold AgS
          have e4 : (σ.upd 2 (Value.slice (some ⟨h0, 0, none⟩) 1 1)) 4 = none := by simp [Sig.upd, h4]
          have e2 : (σ.upd 2 (Value.slice (some ⟨h0, 0, none⟩) 1 1)) 2 = some (Value.slice (some ⟨h0, 0, none⟩) 1 1) := by simp [Sig.upd]
          rw [e4, e2]
          simp only [Option.isSome_some, if_true]
          have h := hS.alloc (.cells #[.int .i64 x] 3)
          rwa [hh] at h
    simp only [Act.put, List.setIfInBounds_toArray, List.set_cons_zero, List.set_cons_succ]
    repeat
      first
      | (refine Trd.calm_value (v := ?_) (by decide) (by decide) rfl (fun σ w1 hS => ?_) ?_
         rotate_left
         · have c0 := hcell.out σ w1 hS
           first | (go_simp; rfl) | rfl
         simp only [Act.put, List.setIfInBounds_toArray, List.set_cons_zero, List.set_cons_succ])
      | (refine Trd.calm_skip (by decide) rfl ?_
         simp only [Act.put, List.setIfInBounds_toArray, List.set_cons_zero, List.set_cons_succ])
    refine Trd.calm_newcall (by decide) (fun w1 => (by go_simp; first | exact ⟨rfl, rfl⟩ | rfl)) (fun σ w1 hS hd => ?_) ?_
    · have h2 := hd 2 (by simp) ⟨⟨2, .data⟩, by simp, by decide, rfl⟩
      have hS2 : Own w0 w1 (blk h0 (.cells #[.int .i64 x] 3) :: PS) := by
        unfold AgS at hS
        split at hS
        · exact hS.2.drop
        · rwa [if_pos h2] at hS
      refine (repeat_any k (one_row hS2.block.1) (by omega)).mono ?_
      rintro e3 w3 ⟨v3, rfl, h3⟩
      refine ⟨v3, rfl, ?_⟩
      unfold AgS
      have e4 : (σ.upd 4 v3) 4 = some v3 := by simp [Sig.upd]
      have e2 : (σ.upd 4 v3) 2 = σ 2 := by simp [Sig.upd]
      rw [e4, e2]
      exact ⟨h2, hS2.join h3⟩
    refine Trd.calm_nil ?_
    intro σ wd hσ _ HD
    obtain ⟨v4, hv4⟩ := Option.isSome_iff_exists.1 (hσ 4 (by decide))
    unfold AgS at HD
    rw [hv4] at HD
    replace HD := HD.2
    rw [hPS.out] at HD
    simp only [putNew, List.foldl_cons, List.foldl_nil, hv4]
    simp only [Act.put, List.setIfInBounds_toArray, List.set_cons_zero, List.set_cons_succ, List.getElem?_cons_succ, List.getElem?_cons_zero, Option.bind_some, Option.getD_some]
    clear hcell hσ hv4 HL HD0
    obtain ⟨a4, c4, rfl, -⟩ := HD.rd.shape
    have hx := HD.rd
    have H3 := HD.front 3 rfl
    clear HD
    go_wp2_with (first
      | (at_builtin; refine wpList_append_sep rfl _ _ rfl Try.underlying31 intInfo rfl (by decide) rfl H3 hx (nums_one _) (by omega) (by omega) ?_; clear H3 hx; intro v' w' H; obtain ⟨a', c', rfl, h1', h2'⟩ := H.rd.shape)
      | (refine wpList_store_slice rfl _ _ rfl rfl (H.front 3 rfl) rfl (by kernel_rfl) (by simp) ?_; clear H; intro w2 H))
    go_end0
    rw [nums_append] at H
    have hlen : M + k = (l ++ List.replicate k x).length := by rw [List.length_append, List.length_replicate, hM.out]
    rw [← e1.out]
    exact ⟨_, rfl, Own.unlenp ((H.front 2 rfl).drop.front 2 rfl).drop hlen⟩
end Go.Proofs.Ytnebacnmbigaaaa
/- inflate: the walk of lengths. -/
namespace Go.Proofs.Ytnebacnmbigaaaa
open Go.RowKit

/-- Where lengths stand: as they go on, or a fault. -/
def LSt (bs : List Bool) (G : Got (List Int)) (T : List Int) (N : Nat) (l : List Int) (n : Nat) (e : Int) : Prop := (e = 0 → lengthsG bs T N l n = G) ∧ (e ≠ 0 → ∀ v m, GotR G v m e)
theorem gotR_any {α : Type} {g : Got α} {v v' : α} {m m' : Nat} {e : Int} (h : GotR g v m e) (he : e ≠ 0) : GotR g v' m' e := by
  unfold GotR at *
  cases g with
  | ok v0 n0 => exact absurd h.2.2 he
  | ran => exact h
  | bad e0 => exact h
theorem gotR_bind {α β : Type} {g : Got α} {f : α → Nat → Got β} {v : α} {v' : β} {m m' : Nat} {e : Int} (h : GotR g v m e) (he : e ≠ 0) : GotR (g.bind f) v' m' e := by
  unfold GotR at h ⊢
  cases g with
  | ok v0 n0 => exact absurd h.2.2 he
  | ran => exact h
  | bad e0 => exact h
theorem gotR_ok {α : Type} {g : Got α} {v : α} {m : Nat} (h : GotR g v m 0) (hb : ∀ e, g = .bad e → e ≠ 0) : g = .ok v m := by
  unfold GotR at h
  cases g with
  | ok v0 n0 => rw [h.1, h.2.1]
  | ran => have h : (0 : Int) = 2 := h; omega
  | bad e0 => have h : (0 : Int) = e0 := h; exact absurd h.symm (hb _ rfl)
theorem sym_bad {bs : List Bool} {T : List Int} {n : Nat} : ∀ e, symG bs T n = .bad e → e ≠ 0 := by
  intro e h
  unfold symG at h
  split at h
  · cases h
  · split at h
    · cases h
    · cases h; decide
theorem lst_start {bs : List Bool} {T : List Int} {N n : Nat} : LSt bs (lengthsG bs T N [] n) T N [] n 0 := ⟨fun _ => rfl, fun h => absurd rfl h⟩
theorem lst_end {bs : List Bool} {G : Got (List Int)} {T l : List Int} {N n : Nat} {e : Int} (h : LSt bs G T N l n e) (hx : e ≠ 0 ∨ N ≤ l.length) : GotR G l n e := by
  by_cases he : e = 0
  · subst he
    rw [← h.1 rfl, lengthsG, dif_pos (hx.resolve_left (by simp))]
    exact ⟨rfl, rfl, rfl⟩
  · exact h.2 he _ _
/-- Behind a symbol. -/
theorem lst_sym {bs : List Bool} {G : Got (List Int)} {T l : List Int} {N n n1 : Nat} {c e1 : Int} (h : LSt bs G T N l n 0) (hl : l.length < N) (hs : GotR (symG bs T n) c n1 e1) :
    (e1 ≠ 0 → LSt bs G T N l n1 e1) ∧ (e1 = 0 → (c < 16 → LSt bs G T N (l ++ [c]) n1 0) ∧ (c = 16 → l.length = 0 → ∀ v m, GotR G v m 2) ∧
      (c = 16 → l.length ≠ 0 → G = (takeG bs 2 n1).bind fun v n2 => if N < l.length + (3 + v.toNat) then .bad 2 else lengthsG bs T N (l ++ List.replicate (3 + v.toNat) (l.getD (l.length - 1) 0)) n2) ∧
      (c = 17 → G = (takeG bs 3 n1).bind fun v n2 => if N < l.length + (3 + v.toNat) then .bad 2 else lengthsG bs T N (l ++ List.replicate (3 + v.toNat) 0) n2) ∧
      (17 < c → G = (takeG bs 7 n1).bind fun v n2 => if N < l.length + (11 + v.toNat) then .bad 2 else lengthsG bs T N (l ++ List.replicate (11 + v.toNat) 0) n2)) := by
  have hG := h.1 rfl
  rw [lengthsG, dif_neg (by omega)] at hG
  refine ⟨fun he => ⟨fun h0 => absurd h0 he, fun _ v m => by rw [← hG]; exact gotR_bind hs he⟩, fun he => ?_⟩
  subst he
  rw [gotR_ok hs sym_bad, Got.bind_ok] at hG
  refine ⟨fun hc => ⟨fun _ => ?_, fun h0 => absurd rfl h0⟩, fun hc h0 v m => ?_, fun hc h0 => ?_, fun hc => ?_, fun hc => ?_⟩
  · rw [if_pos hc] at hG; exact hG
  · rw [if_neg (by omega), if_pos hc, if_pos h0] at hG; rw [← hG]; rfl
  · rw [if_neg (by omega), if_pos hc, if_neg h0] at hG; exact hG.symm
  · rw [if_neg (by omega), if_neg (by omega), if_pos hc] at hG; exact hG.symm
  · rw [if_neg (by omega), if_neg (by omega), if_neg (by omega)] at hG; exact hG.symm
/-- Behind a length again. -/
theorem lst_again {s : ByteArray} {G : Got (List Int)} {T l : List Int} {N n1 j b V : Nat} {x : Int} (hj : j ≤ 16) (hn : n1 ≤ 8 * s.size) (hV : tkV s n1 j = V)
    (hG : G = (takeG (textBits s) j n1).bind fun v n2 => if N < l.length + (b + v.toNat) then .bad 2 else lengthsG (textBits s) T N (l ++ List.replicate (b + v.toNat) x) n2) :
    LSt (textBits s) G T N (agL N l (b + V) x) (tkN s n1 j) (agE N l (b + V) (tkE s n1 j 0)) := by
  have h := (tk_got (s := s) (n := n1) (k := j) (by omega) hn).1
  unfold takeG at h hG
  unfold tkE
  split at h
  · next hl =>
    obtain ⟨h1, h2, h3⟩ := h
    rw [if_pos hl, Got.bind_ok, ← h1, ← h2, hV, Int.toNat_natCast] at hG
    have ho : tkOk s n1 j := by
      by_cases ho : tkOk s n1 j
      · exact ho
      · rw [if_neg ho] at h3; omega
    rw [if_pos ho]
    unfold agE agL
    split at hG
    · next hx =>
      rw [if_pos hx, if_pos hx, if_pos rfl]
      exact ⟨fun h => absurd h (by decide), fun _ v m => by rw [hG]; rfl⟩
    · next hx =>
      rw [if_neg hx, if_neg hx]
      exact ⟨fun _ => hG.symm, fun h => absurd rfl h⟩
  · next hl =>
    have h3 : (if tkOk s n1 j then (0 : Int) else 2) = 2 := h
    rw [if_neg hl, Got.bind_ran] at hG
    have ho : ¬ tkOk s n1 j := fun ho => by rw [if_pos ho] at h3; omega
    rw [if_neg ho, if_pos rfl]
    have e2 : agE N l (b + V) 2 = 2 := by unfold agE; split <;> simp
    rw [e2]
    exact ⟨fun h => absurd h (by decide), fun _ v m => by rw [hG]; rfl⟩
theorem agL_len {N k : Nat} {l : List Int} {x : Int} (h : l.length ≤ N) : (agL N l k x).length ≤ N := by
  unfold agL
  split
  · exact h
  · rw [List.length_append, List.length_replicate]; omega
/-- What a round leaves is less. -/
def lmeas (N : Nat) (u e : Value) : Nat := if intOf e = 0 then N + 1 - sliceLen u else 0
theorem agL_less {N k : Nat} {l : List Int} {x e : Int} (hk : 1 ≤ k) (hl : l.length < N) : (if agE N l k e = 0 then N + 1 - (agL N l k x).length else 0) < N + 1 - l.length := by
  unfold agE agL
  by_cases hx : N < l.length + k
  · rw [if_pos hx, if_pos hx]
    by_cases he : e = 0
    · rw [if_pos he, if_neg (by decide)]; omega
    · rw [if_neg he, if_neg he]; omega
  · rw [if_neg hx, if_neg hx, List.length_append, List.length_replicate]
    split <;> omega
theorem Own.inr_e {w0 w : World} {ps : List Piece} {g rg n : Nat} {s : ByteArray} {out : List Int} {most e : Int} (H : Own w0 w (Inr g rg s n out most e :: ps)) : w.cell? ⟨g, 3, none⟩ = some (.int .i64 e) := by
  obtain ⟨a, c, _, _, H⟩ := H.inr
  rw [H.cells]; rfl
theorem Own.lenp_len {w0 w : World} {ps : List Piece} {b : Nat} {l : List Int} (H : Own w0 w (LenP b l :: ps)) : sliceLen ((w.cell? ⟨b, 0, none⟩).getD undef) = l.length := by
  obtain ⟨a, c, _, _, H⟩ := H.lenp
  rw [H.cells]; rfl

theorem tk_small {s : ByteArray} {n k V : Nat} (hk : k ≤ 7) (h : tkV s n k = V) : V < 128 := by
  unfold tkV at h
  split at h
  · have hb := valOf_bd (((textBits s).drop n).take (k : Int).toNat)
    have hl : (((textBits s).drop n).take (k : Int).toNat).length ≤ 7 := by simp; omega
    have hp := pow2_le hl
    have : (2 : Int) ^ 7 = 128 := rfl
    omega
  · omega
/-- What is behind a length again, taken at once. -/
theorem lmeas_own {w0 w : World} {ps : List Piece} {A B : Piece} {b N g rg n : Nat} {s : ByteArray} {l out : List Int} {most e : Int} (H : Own w0 w (LenP b l :: A :: B :: Inr g rg s n out most e :: ps)) : lmeas N ((w.cell? ⟨b, 0, none⟩).getD undef) ((w.cell? ⟨g, 3, none⟩).getD undef) = if e = 0 then N + 1 - l.length else 0 := by
  unfold lmeas
  rw [H.lenp_len, (H.front 3 rfl).inr_e]
  rfl

/-- What lengths leaves. -/
def LensPost (w0 : World) (ps : List Piece) (g rg t : Nat) (s : ByteArray) (T out : List Int) (most : Int) (N : Nat) (G : Got (List Int)) (r : Value) (w' : World) : Prop :=
  ∃ l n' e', n' ≤ 8 * s.size ∧ l.length ≤ N ∧ (e' = 0 → l.length = N) ∧ GotR G l n' e' ∧ Own w0 w' (slc 3 1 r l.length (nums l) :: Inr g rg s n' out most e' :: Tbl t T :: ps)

set_option maxRecDepth 100000 in
set_option maxHeartbeats 3200000 in
theorem inlengths_any {w0 w : World} {ps : List Piece} {g rg t n : Nat} {s : ByteArray} {T out : List Int} {most : Int} (N : Nat) (hT : TabOk T) (hN : N ≤ 1000) (hs : s.size ≤ 1000000) (hn : n ≤ 8 * s.size) (H : Own w0 w (Inr g rg s n out most 0 :: Tbl t T :: ps)) :
    Calls Try.prog 58 #[.pointer (some ⟨g, 0, none⟩), .pointer (some ⟨t, 0, none⟩), .int .i64 N] w (Ret (LensPost w0 ps g rg t s T out most N (lengthsG (textBits s) T N [] n))) := by
  obtain ⟨G, hG⟩ : ∃ G, Hid (lengthsG (textBits s) T N [] n = G) := ⟨_, rfl⟩
  have hst : Hid (LSt (textBits s) G T N [] n 0) := Lib.hid (by rw [← hG.out]; exact lst_start)
  rw [hG.out]
  have hmf : ∀ (fn : Fn) (first cap : Array Value) (w : World), (Instr.makeFunc fn first cap).run Try.prog w = .ok (.func fn first cap) w := fun _ _ _ _ => rfl
  go_enter Try.func58, Try.ntmps58
  go_upto_region 2 with (fail)
  replace H := H.alloc3 (.cells #[.pointer (some ⟨g, 0, none⟩)] 55) (.cells #[.int .i64 N] 3) (.cells #[.slice none 0 0] 31)
  generalize ((w.alloc (.cells #[.pointer (some ⟨g, 0, none⟩)] 55)).alloc (.cells #[.int .i64 N] 3)).alloc (.cells #[.slice none 0 0] 31) = wa at *
  obtain ⟨bL, hbL⟩ : ∃ g, w.heap.size + 1 + 1 = g := ⟨_, rfl⟩
  rw [hbL] at H ⊢
  obtain ⟨bN, hbN⟩ : ∃ g, w.heap.size + 1 = g := ⟨_, rfl⟩
  rw [hbN] at H ⊢
  generalize w.heap.size = bR at *
  clear hbL hbN
  replace H : Own w0 wa (LenP bL [] :: blk bN (.cells #[.int .i64 N] 3) :: blk bR (.cells #[.pointer (some ⟨g, 0, none⟩)] 55) :: Inr g rg s n out most 0 :: Tbl t T :: ps) := by
    exact Own.unlenp (((H.nil 3 1).front 1 rfl)) rfl
  go_wp2_with fail
  go_loopw [9] (fun _ wx => ∃ (l : List Int) (n1 : Nat) (e : Int), l.length ≤ N ∧ n1 ≤ 8 * s.size ∧ Hid (LSt (textBits s) G T N l n1 e) ∧ Own w0 wx (LenP bL l :: blk bN (.cells #[.int .i64 N] 3) :: blk bR (.cells #[.pointer (some ⟨g, 0, none⟩)] 55) :: Inr g rg s n1 out most e :: Tbl t T :: ps)) (fun _ wx => lmeas N ((wx.cell? ⟨bL, 0, none⟩).getD undef) ((wx.cell? ⟨g, 3, none⟩).getD undef))
  case atStart => exact ⟨[], n, 0, by simp, hn, hst, H⟩
  case round =>
    clear H hst hG
    obtain ⟨l, n1, e, hl, hn1, hst, H⟩ := hrel
    obtain ⟨M, hM⟩ : ∃ M, Hid (l.length = M) := ⟨_, rfl⟩
    have hm0 : Hid (lmeas N ((wr.cell? ⟨bL, 0, none⟩).getD undef) ((wr.cell? ⟨g, 3, none⟩).getD undef) = if e = 0 then N + 1 - M else 0) := Lib.hid (by rw [lmeas_own H, hM.out])
    have ce := (H.front 3 rfl).inr_e
    obtain ⟨a, c, h1, h2, HL⟩ := H.lenp
    rw [hM.out] at HL hl
    have c0 := HL.cells
    have c1 := (HL.front 2 rfl).cells
    have c2 := (HL.front 3 rfl).cells
    by_cases hx : e ≠ 0 ∨ N ≤ M
    · have hend := Lib.hid (lst_end hst.out (hx.imp id fun h => by rw [hM.out]; exact h))
      by_cases hlt : M < N
      · have he : (e == 0) = false := by simp; omega
        have hlt2 : (M : Int) < N := by omega
        clear hx hst hm0
        have HR : Own w0 wr (slc 3 1 (.slice a M c) l.length (nums l) :: Inr g rg s n1 out most e :: Tbl t T :: ps) := by rw [hM.out]; exact ((HL.drop.front 1 rfl).drop.front 1 rfl).drop
        go_wp2
        go_ret
        exact ⟨_, rfl, l, n1, e, hn1, by rw [hM.out]; omega, fun h => absurd h (by simpa using he), hend.out, HR⟩
      · have hlt2 : ¬ (M : Int) < N := by omega
        clear hx hst hm0
        have HR : Own w0 wr (slc 3 1 (.slice a M c) l.length (nums l) :: Inr g rg s n1 out most e :: Tbl t T :: ps) := by rw [hM.out]; exact ((HL.drop.front 1 rfl).drop.front 1 rfl).drop
        go_wp2
        go_ret
        exact ⟨_, rfl, l, n1, e, hn1, by rw [hM.out]; omega, fun h => by rw [hM.out]; omega, hend.out, HR⟩
    · obtain ⟨he, hlt⟩ : e = 0 ∧ M < N := by omega
      subst he
      clear hx
      replace hm0 := Lib.hid (hm0.out.trans (if_pos rfl))
      have hlt2 : (M : Int) < N := by omega
      have hlN : Hid (l.length < N) := Lib.hid (by rw [hM.out]; exact hlt)
      have HSY : Own w0 wr (Inr g rg s n1 out most 0 :: Tbl t T :: LenP bL l :: blk bN (.cells #[.int .i64 N] 3) :: blk bR (.cells #[.pointer (some ⟨g, 0, none⟩)] 55) :: ps) := (H.front 4 rfl).front 4 rfl
      have HS := Lib.hid (insym_any (g := g) (t := t) hT hs hn1 HSY)
      go_wp2_with fail
      refine HS.out.mono ?_
      rintro e0 w1 ⟨_, rfl, v, n2, e1, rfl, -, -, hn2, -, hg, H1⟩
      have hpl := Lib.hid (lst_sym hst.out hlN.out (hg trivial))
      clear HS HSY H HL c0 c1 c2 ce hg hst h1 h2
      have H : Own w0 w1 (LenP bL l :: blk bN (.cells #[.int .i64 N] 3) :: blk bR (.cells #[.pointer (some ⟨g, 0, none⟩)] 55) :: Inr g rg s n2 out most e1 :: Tbl t T :: ps) := (H1.front 4 rfl).front 4 rfl |>.front 4 rfl
      clear H1
      have ce := (H.front 3 rfl).inr_e
      have c1 := (H.front 1 rfl).cells
      have c2 := (H.front 2 rfl).cells
      obtain ⟨ig, ic, ih1, ih2, HI⟩ := (H.front 3 rfl).inr
      by_cases he1 : e1 = 0
      case neg =>
        have heb : (e1 == 0) = false := by simp [he1]
        have hst := Lib.hid (hpl.out.1 he1)
        clear hpl HI
        go_wp2_with fail
        go_roundw
        case rel => exact ⟨l, n2, e1, by rw [hM.out]; omega, hn2, hst, H⟩
        case measure => rw [hm0.out, lmeas_own H, if_neg he1]; omega
      subst he1
      have hpl2 := Lib.hid (hpl.out.2 rfl)
      clear hpl HI
      by_cases hv : v < 16
      · have hst := Lib.hid (hpl2.out.1 hv)
        clear hpl2
        obtain ⟨a, c, h1, h2, HL⟩ := H.lenp
        rw [hM.out] at HL
        clear H
        have c0 := HL.cells
        have H3 := HL.front 1 rfl
        clear HL
        go_wp2_with (first
          | (at_builtin; refine wpList_append_one rfl _ _ rfl Try.underlying31 intInfo rfl (by decide) rfl H3 rfl rfl rfl (by simp [Value.oneCell']) (by omega) (by omega) ?_; clear H3 c0 c1 c2 ce; intro v' w' H; obtain ⟨a', c', rfl, h1', h2'⟩ := H.rd.shape)
          | (refine wpList_store_slice rfl _ _ rfl rfl (H.front 1 rfl) rfl (by kernel_rfl) (by simp) ?_; clear H; intro w2 H))
        have hlen : M + 1 = (l ++ [v]).length := by rw [List.length_append, hM.out]; rfl
        have H4 : Own w0 w2 (LenP bL (l ++ [v]) :: blk bN (.cells #[.int .i64 N] 3) :: blk bR (.cells #[.pointer (some ⟨g, 0, none⟩)] 55) :: Inr g rg s n2 out most 0 :: Tbl t T :: ps) := Own.unlenp (by rw [← nums_append]; exact H) hlen
        clear H
        simp only [Act.put, List.setIfInBounds_toArray, List.set_cons_zero, List.set_cons_succ]
        go_roundw
        case rel => exact ⟨l ++ [v], n2, 0, by omega, hn2, hst, H4⟩
        case measure => rw [hm0.out, lmeas_own H4, if_pos rfl, ← hlen]; omega
      by_cases hv1 : v = 16
      case neg =>
        by_cases hv2 : v = 17
        · subst hv2
          have hG := hpl2.out.2.2.2.1 rfl
          clear hpl2
          have hV := (tk_got (s := s) (n := n2) (k := 3) (by omega) hn2).2
          obtain ⟨V, hv⟩ : ∃ V : Nat, Hid (tkV s n2 ((3 : Nat) : Int) = V) := ⟨(tkV s n2 ((3 : Nat) : Int)).toNat, Lib.hid (by omega)⟩
          have hV2 : V < 128 := tk_small (by omega) hv.out
          have hst := Lib.hid (lst_again (by omega) hn2 hv.out hG)
          have hn3 := hV.1
          clear hV hG
          have HT := Lib.hid (intake_tk 3 (by omega) (H.front 3 rfl) hs hn2)
          obtain ⟨n3, hn3e⟩ : ∃ n3, Hid (tkN s n2 ((3 : Nat) : Int) = n3) := ⟨_, rfl⟩
          obtain ⟨E, hE⟩ : ∃ E, Hid (tkE s n2 ((3 : Nat) : Int) 0 = E) := ⟨_, rfl⟩
          have hE2 : (if tkOk s n2 ((3 : Nat) : Int) then (0 : Int) else if (0 : Int) = 0 then 2 else 0) = E := hE.out
          rw [hv.out, hn3e.out, hE2] at HT
          rw [hn3e.out, hE.out] at hst
          rw [hn3e.out] at hn3
          clear hE2 hE hn3e hv
          have hw : IntKind.i64.wrap (3 + (V : Int)) = 3 + (V : Int) := IntWalk.i64_in _ ⟨by omega, by omega⟩
          go_wp2_with fail
          refine HT.out.mono ?_
          rintro e2 w2 ⟨_, rfl, rfl, H1⟩
          have H2 : Own w0 w2 (LenP bL l :: blk bN (.cells #[.int .i64 N] 3) :: blk bR (.cells #[.pointer (some ⟨g, 0, none⟩)] 55) :: Inr g rg s n3 out most E :: Tbl t T :: ps) := (H1.front 3 rfl).front 3 rfl |>.front 3 rfl
          have HA := Lib.hid (inagain_any 0 (3 + V) N (by omega) hN (by rw [hM.out]; omega) H2)
          rw [show ((3 + V : Nat) : Int) = 3 + (V : Int) from by omega] at HA
          clear HT H1 H2 H c1 c2 ce
          go_wp2_with fail
          refine HA.out.mono ?_
          rintro e3 w3 ⟨_, rfl, H3⟩
          clear HA
          go_wp2_with fail
          go_roundw
          case rel => exact ⟨_, n3, _, agL_len (by rw [hM.out]; omega), hn3, hst, H3⟩
          case measure => rw [hm0.out, lmeas_own H3]; have := agL_less (N := N) (k := 3 + V) (l := l) (x := 0) (e := E) (by omega) (by rw [hM.out]; exact hlt); rw [hM.out] at this; exact this
        · have hG := hpl2.out.2.2.2.2 (by omega)
          have hvb1 : (v == 16) = false := by simp [hv1]
          have hvb2 : (v == 17) = false := by simp [hv2]
          clear hpl2 hv1 hv2
          have hV := (tk_got (s := s) (n := n2) (k := 7) (by omega) hn2).2
          obtain ⟨V, hv⟩ : ∃ V : Nat, Hid (tkV s n2 ((7 : Nat) : Int) = V) := ⟨(tkV s n2 ((7 : Nat) : Int)).toNat, Lib.hid (by omega)⟩
          have hV2 : V < 128 := tk_small (by omega) hv.out
          have hst := Lib.hid (lst_again (by omega) hn2 hv.out hG)
          have hn3 := hV.1
          clear hV hG
          have HT := Lib.hid (intake_tk 7 (by omega) (H.front 3 rfl) hs hn2)
          obtain ⟨n3, hn3e⟩ : ∃ n3, Hid (tkN s n2 ((7 : Nat) : Int) = n3) := ⟨_, rfl⟩
          obtain ⟨E, hE⟩ : ∃ E, Hid (tkE s n2 ((7 : Nat) : Int) 0 = E) := ⟨_, rfl⟩
          have hE2 : (if tkOk s n2 ((7 : Nat) : Int) then (0 : Int) else if (0 : Int) = 0 then 2 else 0) = E := hE.out
          rw [hv.out, hn3e.out, hE2] at HT
          rw [hn3e.out, hE.out] at hst
          rw [hn3e.out] at hn3
          clear hE2 hE hn3e hv
          have hw : IntKind.i64.wrap (11 + (V : Int)) = 11 + (V : Int) := IntWalk.i64_in _ ⟨by omega, by omega⟩
          go_wp2_with fail
          refine HT.out.mono ?_
          rintro e2 w2 ⟨_, rfl, rfl, H1⟩
          have H2 : Own w0 w2 (LenP bL l :: blk bN (.cells #[.int .i64 N] 3) :: blk bR (.cells #[.pointer (some ⟨g, 0, none⟩)] 55) :: Inr g rg s n3 out most E :: Tbl t T :: ps) := (H1.front 3 rfl).front 3 rfl |>.front 3 rfl
          have HA := Lib.hid (inagain_any 0 (11 + V) N (by omega) hN (by rw [hM.out]; omega) H2)
          rw [show ((11 + V : Nat) : Int) = 11 + (V : Int) from by omega] at HA
          clear HT H1 H2 H c1 c2 ce
          go_wp2_with fail
          refine HA.out.mono ?_
          rintro e3 w3 ⟨_, rfl, H3⟩
          clear HA
          go_wp2_with fail
          go_roundw
          case rel => exact ⟨_, n3, _, agL_len (by rw [hM.out]; omega), hn3, hst, H3⟩
          case measure => rw [hm0.out, lmeas_own H3]; have := agL_less (N := N) (k := 11 + V) (l := l) (x := 0) (e := E) (by omega) (by rw [hM.out]; exact hlt); rw [hM.out] at this; exact this
      subst hv1
      clear hv
      obtain ⟨a, c, h1, h2, HL⟩ := H.lenp
      rw [hM.out] at HL
      have c0 := HL.cells
      by_cases hM0 : M = 0
      · subst hM0
        have hst : Hid (LSt (textBits s) G T N l n2 2) := Lib.hid ⟨fun h => absurd h (by decide), fun _ => hpl2.out.2.1 rfl hM.out⟩
        clear hpl2
        have HH := Lib.hid (infail_any (g := g) (rg := rg) 2 (by decide) (H.front 3 rfl))
        go_wp2_with fail
        refine HH.out.mono ?_
        rintro e2 w2 ⟨_, rfl, H1⟩
        have H2 : Own w0 w2 (LenP bL l :: blk bN (.cells #[.int .i64 N] 3) :: blk bR (.cells #[.pointer (some ⟨g, 0, none⟩)] 55) :: Inr g rg s n2 out most 2 :: Tbl t T :: ps) := (H1.front 3 rfl).front 3 rfl |>.front 3 rfl
        clear HH H1 H HL c0 c1 c2 ce
        go_wp2_with fail
        go_roundw
        case rel => exact ⟨l, n2, 2, by rw [hM.out]; omega, hn2, hst, H2⟩
        case measure => rw [hm0.out, lmeas_own H2, if_neg (by decide)]; omega
      obtain ⟨K, rfl⟩ : ∃ K, M = K + 1 := ⟨M - 1, by omega⟩
      have hG := hpl2.out.2.2.1 rfl (by rw [hM.out]; omega)
      clear hpl2 hM0
      obtain ⟨x, hx⟩ : ∃ x, Hid (l.getD (l.length - 1) 0 = x) := ⟨_, rfl⟩
      rw [hx.out] at hG
      have hV := (tk_got (s := s) (n := n2) (k := 2) (by omega) hn2).2
      obtain ⟨V, hv⟩ : ∃ V : Nat, Hid (tkV s n2 ((2 : Nat) : Int) = V) := ⟨(tkV s n2 ((2 : Nat) : Int)).toNat, Lib.hid (by omega)⟩
      have hV2 : V < 128 := tk_small (by omega) hv.out
      have hst := Lib.hid (lst_again (by omega) hn2 hv.out hG)
      have hn3 := hV.1
      clear hV hG
      have HT0 : ∀ (wz : World) (pz : List Piece), Own w0 wz (Inr g rg s n2 out most 0 :: pz) → _ := fun wz pz h => intake_tk 2 (by omega) h hs hn2
      have HT := Lib.hid HT0
      clear HT0
      obtain ⟨n3, hn3e⟩ : ∃ n3, Hid (tkN s n2 ((2 : Nat) : Int) = n3) := ⟨_, rfl⟩
      obtain ⟨E, hE⟩ : ∃ E, Hid (tkE s n2 ((2 : Nat) : Int) 0 = E) := ⟨_, rfl⟩
      have hE2 : (if tkOk s n2 ((2 : Nat) : Int) then (0 : Int) else if (0 : Int) = 0 then 2 else 0) = E := hE.out
      rw [hv.out, hn3e.out, hE2] at HT
      rw [hn3e.out, hE.out] at hst
      rw [hn3e.out] at hn3
      clear hE2 hE hn3e hv
      have hw : IntKind.i64.wrap (3 + (V : Int)) = 3 + (V : Int) := IntWalk.i64_in _ ⟨by omega, by omega⟩
      have hb1 : ((K : Int) + 1 == 0) = false := by simp; omega
      have hK1 : (K : Int) < (K : Int) + 1 := by omega
      have hwK : IntKind.i64.wrap (K : Int) = K := IntWalk.i64_in _ ⟨by omega, by omega⟩
      have hrow : Hid ((nums l)[K]? = some (.int .i64 x)) := Lib.hid (by
        rw [← hx.out, hM.out]
        unfold nums
        rw [List.getElem?_map, List.getElem?_eq_getElem (by rw [hM.out]; omega)]
        simp [List.getD, List.getElem?_eq_getElem (show K < l.length by rw [hM.out]; omega)])
      obtain ⟨bK, cK, hgK, hcK1, hcK2, -, -, -, -⟩ := (HL.front 1 rfl).at (by unfold nums; rw [List.length_map, hM.out]; omega)
      cases hgK
      clear H
      have hcell : ∀ (w1 : World) (ps : List Piece), Own w0 w1 (blk bL (.cells #[.slice (some ⟨bK, 0, none⟩) (K + 1) c] 31) :: slc 3 1 (.slice (some ⟨bK, 0, none⟩) (K + 1) c) (K + 1) (nums l) :: ps) → w1.cell? ⟨bK, K, none⟩ = some (.int .i64 x) := fun w1 ps h => by
        have h3 := (h.front 1 rfl).rd.cell hrow.out
        simpa using h3
      replace hcell := Lib.hid hcell
      go_upto_region 12 with (fail)
      have HD0 := HL.drew
      clear HL c0 c1 c2 ce
      refine Trk.wp_region_new (fun σ w1 => Own w0 w1 (blk bL (.cells #[.slice (some ⟨bK, 0, none⟩) (K + 1) c] 31) :: slc 3 1 (.slice (some ⟨bK, 0, none⟩) (K + 1) c) (K + 1) (nums l) :: blk bN (.cells #[.int .i64 N] 3) :: blk bR (.cells #[.pointer (some ⟨g, 0, none⟩)] 55) :: (if (σ 8).isSome then Inr g rg s n3 out most E else Inr g rg s n2 out most 0) :: Tbl t T :: ps)) 10 [] [8] (by intro k hk; simp at hk; subst hk; exact ⟨by omega, by simp, fun o ho => by simp at ho; subst ho; rfl⟩) (by kernel_rfl) (by kernel_rfl) HD0 ?_
      simp only [List.take_succ_cons, List.take_zero, List.drop_succ_cons, List.drop_zero]
      repeat
        first
        | (refine Trk.calm_value (v := ?_) (by decide) (by decide) rfl (fun σ w1 hS => ?_) ?_
           rotate_left
           · have c0 := hS.cells; have c3 := (hS.front 3 rfl).cells; have c4 := hcell.out _ _ hS
             first | (go_simp; rfl) | rfl
           simp only [Act.put, List.setIfInBounds_toArray, List.set_cons_zero, List.set_cons_succ])
        | (refine Trk.calm_skip (by decide) rfl ?_
           simp only [Act.put, List.setIfInBounds_toArray, List.set_cons_zero, List.set_cons_succ])
      refine kcalm_call (v := .int .i64 V) (by decide) (by decide) rfl (fun w1 => (by go_simp; first | exact ⟨rfl, rfl⟩ | rfl)) (fun σ w1 hS hn => ?_) ?_
      · rw [hn] at hS
        have hS2 : Own w0 w1 (blk bL (.cells #[.slice (some ⟨bK, 0, none⟩) (K + 1) c] 31) :: slc 3 1 (.slice (some ⟨bK, 0, none⟩) (K + 1) c) (K + 1) (nums l) :: blk bN (.cells #[.int .i64 N] 3) :: blk bR (.cells #[.pointer (some ⟨g, 0, none⟩)] 55) :: Inr g rg s n2 out most 0 :: Tbl t T :: ps) := hS
        refine (HT.out _ _ (hS2.front 4 rfl)).mono ?_
        rintro e5 w5 ⟨_, rfl, rfl, h5⟩
        refine ⟨rfl, ?_⟩
        have h6 := (h5.front 4 rfl).front 4 rfl |>.front 4 rfl |>.front 4 rfl
        simpa [Sig.upd] using h6
      simp only [Act.put, List.setIfInBounds_toArray, List.set_cons_zero, List.set_cons_succ]
      repeat
        first
        | (refine Trk.calm_value (v := ?_) (by decide) (by decide) rfl (fun σ w1 hS => ?_) ?_
           rotate_left
           · have c0 := hS.cells; have c3 := (hS.front 3 rfl).cells; have c4 := hcell.out _ _ hS
             first | (go_simp; rfl) | rfl
           simp only [Act.put, List.setIfInBounds_toArray, List.set_cons_zero, List.set_cons_succ])
        | (refine Trk.calm_skip (by decide) rfl ?_
           simp only [Act.put, List.setIfInBounds_toArray, List.set_cons_zero, List.set_cons_succ])
      refine Trk.calm_nil ?_
      intro σ wd _ hσ HD
      have h8 := hσ 8 (by decide)
      rw [if_pos h8] at HD
      clear hσ h8 HD0 HT hcell
      simp only [putNew, List.foldl_nil]
      have H2 : Own w0 wd (LenP bL l :: blk bN (.cells #[.int .i64 N] 3) :: blk bR (.cells #[.pointer (some ⟨g, 0, none⟩)] 55) :: Inr g rg s n3 out most E :: Tbl t T :: ps) := Own.unlenp HD hM.out.symm
      have HA := Lib.hid (inagain_any x (3 + V) N (by omega) hN (by rw [hM.out]; omega) H2)
      rw [show ((3 + V : Nat) : Int) = 3 + (V : Int) from by omega] at HA
      clear H2 HD
      go_wp2_with fail
      refine HA.out.mono ?_
      rintro e3 w3 ⟨_, rfl, H3⟩
      clear HA
      go_wp2_with fail
      go_roundw
      case rel => exact ⟨_, n3, _, agL_len (by rw [hM.out]; omega), hn3, hst, H3⟩
      case measure => rw [hm0.out, lmeas_own H3]; have := agL_less (N := N) (k := 3 + V) (l := l) (x := x) (e := E) (by omega) (by rw [hM.out]; exact hlt); rw [hM.out] at this; exact this
end Go.Proofs.Ytnebacnmbigaaaa
/- inflate, the document's: the walk of lengths. -/
namespace Go.Proofs.Ytnebacnmbigaaaa
open Go.RowKit

theorem Own.sta_e {w0 w : World} {ps : List Piece} {g rg n : Nat} {s : ByteArray} {out : List Int} {most e : Int} (H : Own w0 w (Sta g rg s n out most e :: ps)) : w.cell? ⟨g, 3, none⟩ = some (.int .i64 e) := by
  obtain ⟨a, c, b, _, _, H⟩ := H.sta
  rw [H.cells]; rfl
theorem lmeas_sta {w0 w : World} {ps : List Piece} {N g rg n : Nat} {s : ByteArray} {l : List Int} {out : List Int} {most e : Int} {a : Option Addr} {c : Nat} (H : Own w0 w (Sta g rg s n out most e :: ps)) : lmeas N (.slice a l.length c) ((w.cell? ⟨g, 3, none⟩).getD undef) = if e = 0 then N + 1 - l.length else 0 := by
  unfold lmeas
  rw [H.sta_e]
  rfl
theorem lst_any {bs : List Bool} {G : Got (List Int)} {T l l' : List Int} {N n n' : Nat} {e : Int} (h : LSt bs G T N l n e) (he : e ≠ 0) : LSt bs G T N l' n' e := ⟨fun h0 => absurd h0 he, h.2⟩
theorem agE_flt {N k : Nat} {l : List Int} {e : Int} : agE N l k e = fltF (decide ((N : Int) - l.length < k)) 2 e := by
  unfold agE fltF
  by_cases h : N < l.length + k
  · rw [if_pos h, decide_eq_true (by omega)]
    simp
  · rw [if_neg h, decide_eq_false (by omega)]
    simp
theorem terr_cerr {l : List Int} (h : terrF l = 0) : cerrF l = 0 := by
  have h3 := (table_ok h).2.2
  unfold cerrF
  unfold terrF at h
  by_cases hm : mayF l = true
  · rw [if_pos hm, if_pos h3]
  · rw [if_neg hm] at h; cases h
theorem lst_lit {bs : List Bool} {G : Got (List Int)} {T l : List Int} {N n1 : Nat} {c e1 : Int} {X Y Z W : Prop} (h : (e1 ≠ 0 → LSt bs G T N l n1 e1) ∧ (e1 = 0 → (c < 16 → LSt bs G T N (l ++ [c]) n1 0) ∧ X ∧ Y ∧ Z ∧ W)) (hc : c < 16) : LSt bs G T N (l ++ [c]) n1 e1 := by
  by_cases he : e1 = 0
  · subst he; exact (h.2 rfl).1 hc
  · exact lst_any (h.1 he) he
theorem agE_ne {N k : Nat} {l : List Int} {e : Int} (h : e ≠ 0) : agE N l k e = e := by rw [agE_flt, flt_ne h]
theorem lst_more {bs : List Bool} {G : Got (List Int)} {T l : List Int} {N n1 n3 j b : Nat} {V x e E : Int}
    (h1 : e = 0 → G = (takeG bs j n1).bind fun v n2 => if N < l.length + (b + v.toNat) then .bad 2 else lengthsG bs T N (l ++ List.replicate (b + v.toNat) x) n2)
    (h2 : e ≠ 0 → ∀ v m, GotR G v m e) (hg : e = 0 → GotR (takeG bs j n1) V n3 E) (hk : e ≠ 0 → E = e) : LSt bs G T N (agL N l (b + V.toNat) x) n3 (agE N l (b + V.toNat) E) := by
  by_cases he : e = 0
  · have hG := h1 he
    rcases take_got (hg he) with ⟨rfl, h3, -, -⟩ | ⟨rfl, h3⟩
    · rw [h3, Got.bind_ok] at hG
      unfold agE agL
      by_cases hx : N < l.length + (b + V.toNat)
      · rw [if_pos hx, if_pos hx, if_pos rfl]
        rw [if_pos hx] at hG
        exact ⟨fun h => absurd h (by decide), fun _ v m => by rw [hG]; rfl⟩
      · rw [if_neg hx, if_neg hx]
        rw [if_neg hx] at hG
        exact ⟨fun _ => hG.symm, fun h => absurd rfl h⟩
    · rw [h3, Got.bind_ran] at hG
      rw [agE_ne (by decide)]
      exact ⟨fun h => absurd h (by decide), fun _ v m => by rw [hG]; rfl⟩
  · rw [hk he, agE_ne he]
    exact ⟨fun h => absurd h he, fun _ => h2 he⟩
/-- What a symbol leads to. -/
def LNext (bs : List Bool) (G : Got (List Int)) (T : List Int) (N : Nat) (l : List Int) (n1 : Nat) (c e1 : Int) : Prop :=
    (e1 ≠ 0 → LSt bs G T N l n1 e1) ∧ (e1 = 0 → (c < 16 → LSt bs G T N (l ++ [c]) n1 0) ∧ (c = 16 → l.length = 0 → ∀ v m, GotR G v m 2) ∧
      (c = 16 → l.length ≠ 0 → G = (takeG bs 2 n1).bind fun v n2 => if N < l.length + (3 + v.toNat) then .bad 2 else lengthsG bs T N (l ++ List.replicate (3 + v.toNat) (l.getD (l.length - 1) 0)) n2) ∧
      (c = 17 → G = (takeG bs 3 n1).bind fun v n2 => if N < l.length + (3 + v.toNat) then .bad 2 else lengthsG bs T N (l ++ List.replicate (3 + v.toNat) 0) n2) ∧
      (17 < c → G = (takeG bs 7 n1).bind fun v n2 => if N < l.length + (11 + v.toNat) then .bad 2 else lengthsG bs T N (l ++ List.replicate (11 + v.toNat) 0) n2))
theorem LNext.get {bs : List Bool} {G : Got (List Int)} {T : List Int} {N : Nat} {l : List Int} {n1 : Nat} {c e1 : Int} (h : LNext bs G T N l n1 c e1) :
    (e1 ≠ 0 → LSt bs G T N l n1 e1) ∧ (e1 = 0 → (c < 16 → LSt bs G T N (l ++ [c]) n1 0) ∧ (c = 16 → l.length = 0 → ∀ v m, GotR G v m 2) ∧
      (c = 16 → l.length ≠ 0 → G = (takeG bs 2 n1).bind fun v n2 => if N < l.length + (3 + v.toNat) then .bad 2 else lengthsG bs T N (l ++ List.replicate (3 + v.toNat) (l.getD (l.length - 1) 0)) n2) ∧
      (c = 17 → G = (takeG bs 3 n1).bind fun v n2 => if N < l.length + (3 + v.toNat) then .bad 2 else lengthsG bs T N (l ++ List.replicate (3 + v.toNat) 0) n2) ∧
      (17 < c → G = (takeG bs 7 n1).bind fun v n2 => if N < l.length + (11 + v.toNat) then .bad 2 else lengthsG bs T N (l ++ List.replicate (11 + v.toNat) 0) n2)) := h
/-- Where lengths stand, if there was no fault ahead. -/
def LInv (bs : List Bool) (G : Got (List Int)) (T : List Int) (N : Nat) (e : Int) (l : List Int) (n1 : Nat) (e1 : Int) : Prop := (e ≠ 0 → e1 = e) ∧ (e = 0 → LSt bs G T N l n1 e1)
/-- What lengths leaves. -/
def RLenP (w0 : World) (ps : List Piece) (g rg : Nat) (s : ByteArray) (n : Nat) (T out : List Int) (most e : Int) (N : Nat) (r : Value) (w' : World) : Prop :=
  ∃ l n' e', n' ≤ 8 * s.size ∧ l.length ≤ N ∧ (e' = 0 → l.length = N) ∧ (e ≠ 0 → e' = e) ∧ (e = 0 → GotR (lengthsG (textBits s) T N [] n) l n' e') ∧ Own w0 w' (slc 3 1 r l.length (nums l) :: Sta g rg s n' out most e' :: ps)

set_option maxRecDepth 100000 in
set_option maxHeartbeats 3200000 in
theorem rlengths_any {w0 w : World} {ps : List Piece} {g rg n m : Nat} {lv : Value} {s : ByteArray} {T out : List Int} {most e : Int} (N : Nat) (hlv : Reads w0 ps 1 lv m (nums T)) (hTm : T.length = m) (hm : m ≤ 1000) (hT : e = 0 → terrF T = 0) (hN : N ≤ 200000) (hs : s.size ≤ 1000000) (hn : n ≤ 8 * s.size) (H : Own w0 w (Sta g rg s n out most e :: ps)) :
    Calls Try.prog 87 #[.pointer (some ⟨g, 0, none⟩), lv, .int .i64 N] w (Ret (RLenP w0 ps g rg s n T out most e N)) := by
  obtain ⟨la, lc, rfl, -⟩ := (hlv w H.drop).shape
  have KT := Lib.hid (rtable_any (hlv w H.drop) (by omega))
  go_enter Try.func87, Try.ntmps87
  go_wp2_with fail
  refine KT.out.mono ?_
  rintro e0 w1 ⟨_, rfl, u, rfl, J⟩
  replace H := H.join J
  clear J KT
  replace H : Own w0 w1 (Sta g rg s n out most e :: slc 3 1 u (cresF T).length (nums (cresF T)) :: ps) := H.swap
  have hC : Hid (e = 0 → cresF T = codesF T ∧ (codesF T).length = m) := Lib.hid (fun h => ⟨by unfold cresF; rw [if_pos (terr_cerr (hT h))], by rw [codesF_length, hTm]⟩)
  obtain ⟨C, hCe⟩ : ∃ C, Hid (cresF T = C) := ⟨_, rfl⟩
  obtain ⟨U, hU⟩ : ∃ U, Hid (C.length = U) := ⟨_, rfl⟩
  rw [hCe.out, hU.out] at H
  rw [hCe.out] at hC
  obtain ⟨ua, uc, rfl, -⟩ := (H.front 1 rfl).rd.shape
  have HTR : Hid (∀ (X : List Piece), e = 0 → TabR w0 (X ++ slc 3 1 (.slice ua U uc) U (nums C) :: ps) (.slice la m lc) (.slice ua U uc) m T ∧ (∀ x ∈ T, 0 ≤ x ∧ x ≤ 15) ∧ T.length = m ∧ m ≤ 1000000) := Lib.hid fun X h => by
    obtain ⟨h1, h2⟩ := hC.out h
    refine ⟨fun w' hw' => ⟨?_, ?_⟩, (table_ok (hT h)).2.1, hTm, by omega⟩
    · exact hlv w' (hw'.skip.drop)
    · have h3 := hw'.skip.rd
      have h4 : U = m := by rw [← hU.out, h1, h2]
      rw [h1, h4] at h3
      rw [h4]
      exact h3
  clear hlv hC hT
  go_upto_block 0 with (refine wpList_store_agg (vs := [.slice la m lc, .slice ua U uc]) rfl _ _ rfl rfl (H.alloc _) rfl (by kernel_rfl) (by simp) (by simp [Value.oneCell']) rfl ?_; clear H; intro w2 H)
  generalize w1.heap.size = tb at *
  obtain ⟨G, hG⟩ : ∃ G, Hid (lengthsG (textBits s) T N [] n = G) := ⟨_, rfl⟩
  replace H : Own w0 w2 (Sta g rg s n out most e :: slc 3 1 (.slice none 0 0) 0 (nums []) :: blk tb (.cells #[.slice la m lc, .slice ua U uc] 130) :: slc 3 1 (.slice ua U uc) U (nums C) :: ps) := (H.nil 3 1).front 2 rfl
  have hst : Hid (LInv (textBits s) G T N e [] n e) := Lib.hid ⟨fun _ => rfl, fun h => by rw [h, ← hG.out]; exact lst_start⟩
  have hpost : Hid (∀ r w', (∃ l n' e', n' ≤ 8 * s.size ∧ l.length ≤ N ∧ (e' = 0 → l.length = N) ∧ (e ≠ 0 → e' = e) ∧ (e = 0 → GotR G l n' e') ∧ Own w0 w' (slc 3 1 r l.length (nums l) :: Sta g rg s n' out most e' :: ps)) → RLenP w0 ps g rg s n T out most e N r w') := Lib.hid fun r w' h => by unfold RLenP; rw [hG.out]; exact h
  clear hG
  simp only [Act.put]
  go_wp2_with fail
  go_loopw [7] (fun v7 wx => ∃ (l : List Int) (n1 : Nat) (e1 : Int), l.length ≤ N ∧ n1 ≤ 8 * s.size ∧ Hid (LInv (textBits s) G T N e l n1 e1) ∧ Own w0 wx (Sta g rg s n1 out most e1 :: slc 3 1 v7 l.length (nums l) :: blk tb (.cells #[.slice la m lc, .slice ua U uc] 130) :: slc 3 1 (.slice ua U uc) U (nums C) :: ps)) (fun v7 wx => lmeas N v7 ((wx.cell? ⟨g, 3, none⟩).getD undef))
  case atStart => exact ⟨[], n, e, by simp, hn, hst, H⟩
  case round =>
    clear H hst hn
    obtain ⟨l, n1, e1, hl, hn1, hst, H⟩ := hrel
    obtain ⟨a, c, rfl, hc1, hc2⟩ := (H.front 1 rfl).rd.shape
    have hm0 := Lib.hid (lmeas_sta (N := N) (l := l) (a := a) (c := c) H)
    obtain ⟨M, hM⟩ : ∃ M, Hid (l.length = M) := ⟨_, rfl⟩
    have ce := H.sta_e
    rw [hM.out] at H hl hm0 hc1 ⊢
    obtain ⟨a1, c1, b1, _, _, HX⟩ := H.sta
    have cX := HX.cells
    by_cases hx : e1 ≠ 0 ∨ N ≤ M
    · have hfin : RLenP w0 ps g rg s n T out most e N (.slice a M c) wr := by
        refine hpost.out _ _ ⟨l, n1, e1, hn1, by rw [hM.out]; exact hl, fun h => by rw [hM.out]; omega, hst.out.1, fun h => lst_end (hst.out.2 h) (hx.imp id fun h => by rw [hM.out]; exact h), ?_⟩
        rw [hM.out]
        exact (((H.front 2 rfl).drop).front 2 rfl).drop.swap
      replace hfin := Lib.hid hfin
      by_cases hlt : M < N
      · have he : (e1 == 0) = false := by simp; omega
        have hlt2 : (M : Int) < N := by omega
        clear hx hst hm0 hpost
        go_wp2
        go_ret
        exact ⟨_, rfl, hfin.out⟩
      · have hlt2 : ¬ (M : Int) < N := by omega
        clear hx hst hm0 hpost
        go_wp2
        go_ret
        exact ⟨_, rfl, hfin.out⟩
    · obtain ⟨he1, hlt⟩ : e1 = 0 ∧ M < N := by omega
      subst he1
      have he : e = 0 := by
        rcases Int.decEq e 0 with h | h
        · exact absurd (hst.out.1 h) (fun h' => h h'.symm)
        · exact h
      subst he
      clear hx
      replace hm0 := Lib.hid (hm0.out.trans (if_pos rfl))
      replace hst := Lib.hid (hst.out.2 rfl)
      have hlt2 : (M : Int) < N := by omega
      have hlN : Hid (l.length < N) := Lib.hid (by rw [hM.out]; exact hlt)
      have HS := Lib.hid (rsym_any (g := g) (rg := rg) (HTR.out (slc 3 1 (.slice a M c) M (nums l) :: [blk tb (.cells #[.slice la m lc, .slice ua U uc] 130)])) hs hn1 H)
      have cT := (H.front 2 rfl).cells
      go_wp2_with fail
      refine HS.out.mono ?_
      rintro e0 w3 ⟨_, rfl, v, n2, e2, rfl, hv0, hv1, hn2, -, hg, H3⟩
      have hpl : Hid (LNext (textBits s) G T N l n2 v e2) := Lib.hid (lst_sym hst.out hlN.out (hg rfl))
      replace H3 : Own w0 w3 (Sta g rg s n2 out most e2 :: slc 3 1 (.slice a M c) M (nums l) :: blk tb (.cells #[.slice la m lc, .slice ua U uc] 130) :: slc 3 1 (.slice ua U uc) U (nums C) :: ps) := H3
      clear HS H hg hst HX cX cT ce
      by_cases hv : v < 16
      · have hst := Lib.hid (lst_lit hpl.out.get hv)
        clear hpl
        replace H3 := H3.swap
        go_wp2_with (at_builtin; refine wpList_append_one rfl _ _ rfl Try.underlying31 intInfo rfl (by decide) rfl H3 rfl rfl rfl (by simp [Value.oneCell']) (by omega) (by omega) ?_; clear H3; intro v' w' H; obtain ⟨a', c', rfl, h1', h2'⟩ := H.rd.shape)
        have hlen : M + 1 = (l ++ [v]).length := by rw [List.length_append, hM.out]; rfl
        have H4 : Own w0 w' (Sta g rg s n2 out most e2 :: slc 3 1 (.slice a' (M + 1) c') (l ++ [v]).length (nums (l ++ [v])) :: blk tb (.cells #[.slice la m lc, .slice ua U uc] 130) :: slc 3 1 (.slice ua U uc) U (nums C) :: ps) := by rw [← hlen, ← nums_append]; exact H.swap
        clear H
        go_roundw
        case rel => exact ⟨l ++ [v], n2, e2, by omega, hn2, Lib.hid ⟨fun h => absurd rfl h, fun _ => hst.out⟩, H4⟩
        case measure => rw [hm0.out]; rw [hlen]; rw [lmeas_sta (l := l ++ [v]) H4, ← hlen]; split <;> omega
      obtain ⟨x, hx⟩ : ∃ x, Hid ((if v = 16 then l.getD (l.length - 1) 0 else 0) = x) := ⟨_, rfl⟩
      have hp0 : ∀ e', e2 ≠ 0 → e' = e2 → ∀ v m, GotR G v m e' := fun e' h h' => by rw [h']; exact (hpl.out.get.1 h).2 h
      go_upto_if 36 with (fail)
      go_cut [11] (fun v11 wx => ∃ (k n3 : Nat) (E : Int), v11 = .int .i64 k ∧ 1 ≤ k ∧ k ≤ 70000 ∧ n3 ≤ 8 * s.size ∧ Hid (LSt (textBits s) G T N (agL N l k x) n3 (agE N l k E)) ∧ Own w0 wx (Sta g rg s n3 out most E :: slc 3 1 (.slice a M c) M (nums l) :: blk tb (.cells #[.slice la m lc, .slice ua U uc] 130) :: slc 3 1 (.slice ua U uc) U (nums C) :: ps))
      case first =>
        replace hp0 := Lib.hid hp0
        by_cases hv6 : v = 16
        · subst hv6
          have hMb : Hid (((M : Int) == 0) = decide (M = 0)) := Lib.hid (by by_cases h : M = 0 <;> simp [h])
          obtain ⟨mb, hmb⟩ : ∃ b, Hid (decide (M = 0) = b) := ⟨_, rfl⟩
          rw [hmb.out] at hMb
          have hMb1 := hMb.out
          have K1 := Lib.hid (rfault_any (g := g) (rg := rg) mb 2 H3)
          obtain ⟨eF, heF⟩ : ∃ x, Hid (fltF mb 2 e2 = x) := ⟨_, rfl⟩
          rw [heF.out] at K1
          have hp1 : Hid (eF = 0 → e2 = 0 ∧ l.length ≠ 0) := Lib.hid fun h => by
            rw [← heF.out] at h
            unfold fltF at h
            split at h
            · cases h
            · next h' => exact ⟨h, fun h0 => h' ⟨by rw [← hmb.out, decide_eq_true_eq, ← hM.out]; exact h0, h⟩⟩
          have hp2 : Hid (eF ≠ 0 → ∀ v m, GotR G v m eF) := Lib.hid fun h => by
            rw [← heF.out] at h ⊢
            by_cases h2 : e2 = 0
            · cases hmbv : mb with
              | true =>
                rw [h2, flt_yes]
                exact (hpl.out.get.2 h2).2.1 rfl (by rw [hM.out]; exact of_decide_eq_true (hmb.out.trans hmbv))
              | false => rw [hmbv, flt_no] at h; exact absurd h2 h
            · rw [flt_ne h2]; exact hp0.out _ h2 rfl
          go_wp2_with fail
          refine K1.out.mono ?_
          rintro e5 w5 ⟨_, rfl, HX⟩
          clear K1 H3 heF hmb hMb hMb1
          have HT := Lib.hid (rtk_any 2 (by omega) HX hs hn2)
          go_wp2_with fail
          refine HT.out.mono ?_
          rintro e4 w4 ⟨_, rfl, V, n3, E, rfl, hV0, hV1, hn3, hE, hg, H4⟩
          have hst := Lib.hid (lst_more (l := l) (N := N) (T := T) (x := x) (b := 3) (j := 2) (n1 := n2) (fun h => by rw [(hpl.out.get.2 (hp1.out h).1).2.2.1 rfl (hp1.out h).2, ← hx.out, if_pos trivial]) hp2.out hg (fun h => (hE h).1))
          obtain ⟨V, rfl⟩ : ∃ k : Nat, V = k := ⟨V.toNat, by omega⟩
          rw [Int.toNat_natCast] at hst
          clear HT HX
          go_wp2
          go_meet
          exact ⟨3 + V, n3, E, by simp, by omega, by omega, hn3, hst, H4⟩
        · have hv6b : (v == 16) = false := by simp [hv6]
          rw [if_neg hv6] at hx
          by_cases hv7 : v = 17
          · subst hv7
            have HX := H3
            have HT := Lib.hid (rtk_any 3 (by omega) HX hs hn2)
            go_wp2_with fail
            refine HT.out.mono ?_
            rintro e4 w4 ⟨_, rfl, V, n3, E, rfl, hV0, hV1, hn3, hE, hg, H4⟩
            have hst := Lib.hid (lst_more (l := l) (N := N) (T := T) (x := x) (b := 3) (j := 3) (n1 := n2) (fun h => by rw [(hpl.out.get.2 h).2.2.2.1 rfl, ← hx.out]) (fun h => hp0.out _ h rfl) hg (fun h => (hE h).1))
            obtain ⟨V, rfl⟩ : ∃ k : Nat, V = k := ⟨V.toNat, by omega⟩
            rw [Int.toNat_natCast] at hst
            clear HT HX
            go_wp2
            go_meet
            exact ⟨3 + V, n3, E, by simp, by omega, by omega, hn3, hst, H4⟩
          · have hv7b : (v == 17) = false := by simp [hv7]
            have HX := H3
            have HT := Lib.hid (rtk_any 7 (by omega) HX hs hn2)
            go_wp2_with fail
            refine HT.out.mono ?_
            rintro e4 w4 ⟨_, rfl, V, n3, E, rfl, hV0, hV1, hn3, hE, hg, H4⟩
            have hst := Lib.hid (lst_more (l := l) (N := N) (T := T) (x := x) (b := 11) (j := 7) (n1 := n2) (fun h => by rw [(hpl.out.get.2 h).2.2.2.2 (by omega), ← hx.out]) (fun h => hp0.out _ h rfl) hg (fun h => (hE h).1))
            obtain ⟨V, rfl⟩ : ∃ k : Nat, V = k := ⟨V.toNat, by omega⟩
            rw [Int.toNat_natCast] at hst
            clear HT HX
            go_wp2
            go_meet
            exact ⟨11 + V, n3, E, by simp, by omega, by omega, hn3, hst, H4⟩
      case rest =>
      clear hpl hp0 H3
      obtain ⟨k, n3, E, rfl, hk1, hk2, hn3, hst, H⟩ := hcut
      have hlt3 : Hid (decide ((N : Int) - M < k) = decide ((N : Int) - l.length < k)) := Lib.hid (by rw [hM.out])
      obtain ⟨bd, hbd⟩ : ∃ b, Hid (decide ((N : Int) - M < k) = b) := ⟨_, rfl⟩
      have hagE : Hid (agE N l k E = fltF bd 2 E) := Lib.hid (by rw [agE_flt, ← hlt3.out, hbd.out])
      obtain ⟨E2, hE2⟩ : ∃ x, Hid (fltF bd 2 E = x) := ⟨_, rfl⟩
      rw [hagE.out, hE2.out] at hst
      have hag : Hid (E2 = 0 → agL N l k x = l ++ List.replicate k x ∧ M + k ≤ N) := Lib.hid fun h => by
        have h1 : ¬ N < l.length + k := fun h2 => by
          rw [← hE2.out, ← hagE.out] at h
          unfold agE at h
          rw [if_pos h2] at h
          split at h
          · cases h
          · next h3 => exact h3 h
        refine ⟨by unfold agL; rw [if_neg h1], by rw [← hM.out]; omega⟩
      have K1 := Lib.hid (rfault_any (g := g) (rg := rg) bd 2 H)
      rw [hE2.out] at K1
      have hbd1 := hbd.out
      have hw1 : IntKind.i64.wrap ((N : Int) - (M : Int)) = (N : Int) - M := IntWalk.i64_in _ ⟨by omega, by omega⟩
      clear hlt3 hagE hE2
      go_wp2_with fail
      refine K1.out.mono ?_
      rintro e4 w4 ⟨_, rfl, H4⟩
      clear K1 H hbd hbd1
      by_cases hv : v = 16
      case' pos =>
        have hvb : (v == 16) = true := by simp [hv]
        rw [if_pos hv] at hx
        clear hv
        go_upto_if 67 with (fail)
        go_cut [10] (fun v10 wx => wx = w4 ∧ v10 = .int .i64 x)
        case first =>
          by_cases hM0 : M = 0
          · have hx0 : Hid (x = 0) := Lib.hid (by rw [← hx.out, hM.out, hM0]; have := hM.out; rw [hM0] at this; rw [List.eq_nil_of_length_eq_zero this]; rfl)
            have hM1 : ¬ (0 : Int) < (M : Int) := by omega
            clear hM0 hx
            go_wp2
            go_meet
            exact ⟨rfl, by rw [hx0.out]⟩
          · have hM1 : (0 : Int) < (M : Int) := by omega
            obtain ⟨K, rfl⟩ : ∃ K, M = K + 1 := ⟨M - 1, by omega⟩
            obtain ⟨bK, oK, e6, cK⟩ := rd_at (H4.front 1 rfl).rd (Own.start w4) (i := K) (by omega)
            cases e6
            have hxK : l.getD K 0 = x := by rw [← hx.out, hM.out]; rfl
            rw [hxK] at cK
            clear hM0 hx hxK
            go_wp2
            go_meet
            exact ⟨rfl, rfl⟩
        case' rest => obtain ⟨rfl, rfl⟩ := hcut
      case' neg =>
        have hvb : (v == 16) = false := by simp [hv]
        rw [if_neg hv] at hx
        clear hv
        go_upto_if 67 with (fail)
        go_cut [10] (fun v10 wx => wx = w4 ∧ v10 = .int .i64 x)
        case first =>
          go_wp2
          go_meet
          exact ⟨rfl, by rw [← hx.out]⟩
        case' rest => obtain ⟨rfl, rfl⟩ := hcut
      all_goals
        clear hx hvb
        by_cases hE0 : E2 = 0
        · subst hE0
          obtain ⟨hag1, hMk⟩ := hag.out rfl
          rw [hag1] at hst
          clear hag hag1
          go_wp2_with fail
          go_loopw [7, 12] (fun v7 v12 wx => ∃ j : Nat, v12 = .int .i64 j ∧ j ≤ k ∧ Own w0 wx (Sta g rg s n3 out most 0 :: slc 3 1 v7 (M + j) (nums (l ++ List.replicate j x)) :: blk tb (.cells #[.slice la m lc, .slice ua U uc] 130) :: slc 3 1 (.slice ua U uc) U (nums C) :: ps)) (fun _ v12 _ => k - (intOf v12).toNat)
          case atStart => exact ⟨0, by go_num, by omega, by simpa using H4⟩
          case round =>
            clear H4
            obtain ⟨j, rfl, hj, H⟩ := hrel
            obtain ⟨a2, c2, rfl, hc3, hc4⟩ := (H.front 1 rfl).rd.shape
            obtain ⟨a3, c3, b3, _, _, HX⟩ := H.sta
            have cX := HX.cells
            by_cases hjk : j < k
            · have hjI : (j : Int) < (k : Int) := by omega
              replace H := H.swap
              clear HX
              go_wp2_with (at_builtin; refine wpList_append_one rfl _ _ rfl Try.underlying31 intInfo rfl (by decide) rfl H rfl rfl rfl (by simp [Value.oneCell']) (by omega) (by omega) ?_; clear H cX; intro v' w' H; obtain ⟨a', c', rfl, h1', h2'⟩ := H.rd.shape)
              have H5 : Own w0 w' (Sta g rg s n3 out most 0 :: slc 3 1 (.slice a' (M + (j + 1)) c') (M + (j + 1)) (nums (l ++ List.replicate (j + 1) x)) :: blk tb (.cells #[.slice la m lc, .slice ua U uc] 130) :: slc 3 1 (.slice ua U uc) U (nums C) :: ps) := by
                rw [List.replicate_succ', ← List.append_assoc, ← nums_append, ← Nat.add_assoc]; exact H.swap
              rw [Nat.add_assoc]
              clear H
              go_wp2
              go_roundw
              case rel => exact ⟨j + 1, by go_num, by omega, H5⟩
              case measure => simp [intOf]; omega
            · obtain rfl : j = k := by omega
              have hjI : ¬ (j : Int) < (j : Int) := by omega
              have hlen : M + j = (l ++ List.replicate j x).length := by rw [List.length_append, List.length_replicate, hM.out]
              clear HX
              go_wp2
              go_roundw
              case rel => exact ⟨l ++ List.replicate j x, n3, 0, by omega, hn3, Lib.hid ⟨fun h => absurd rfl h, fun _ => hst.out⟩, by rw [← hlen]; exact H⟩
              case measure => rw [hm0.out]; rw [hlen] at H ⊢; rw [lmeas_sta (l := l ++ List.replicate j x) H, ← hlen]; split <;> omega
        · have hE1 : (E2 == 0) = false := by simp [hE0]
          replace hst := Lib.hid (lst_any (l' := l) (n' := n3) hst.out hE0)
          clear hag
          go_wp2_with fail
          go_loopw [7, 12] (fun v7 v12 wx => v7 = .slice a M c ∧ v12 = .int .i64 0 ∧ Own w0 wx (Sta g rg s n3 out most E2 :: slc 3 1 (.slice a M c) M (nums l) :: blk tb (.cells #[.slice la m lc, .slice ua U uc] 130) :: slc 3 1 (.slice ua U uc) U (nums C) :: ps)) (fun _ _ _ => 0)
          case atStart => exact ⟨rfl, rfl, H4⟩
          case round =>
            clear H4
            obtain ⟨rfl, rfl, H4⟩ := hrel
            obtain ⟨a3, c3, b3, _, _, HX⟩ := H4.sta
            have cX := HX.cells
            have hkI : (0 : Int) < (k : Int) := by omega
            clear HX
            go_wp2
            go_roundw
            case rel => exact ⟨l, n3, E2, by rw [hM.out]; omega, hn3, Lib.hid ⟨fun h => absurd rfl h, fun _ => hst.out⟩, by rw [hM.out]; exact H4⟩
            case measure =>
              rw [hm0.out]
              have h8 := lmeas_sta (N := N) (l := l) (a := a) (c := c) H4
              rw [hM.out, if_neg hE0] at h8
              rw [h8]; omega
end Go.Proofs.Ytnebacnmbigaaaa
/- inflate: codes that are told, plainly: as they are taken. No program in sight. -/
namespace Go.Proofs.Ytnebacnmbigaaaa

theorem ordN_inj : ∀ i j : Fin 19, ordN i = ordN j → i = j := by decide
theorem ordN_lt : ∀ i : Fin 19, ordN i < 19 := by decide
theorem unordN_length (xs : List Int) : ∀ k, (unordN xs k).length = 19 := by
  intro k
  induction k with
  | zero => rfl
  | succ k ih => rw [unordN, List.length_set, ih]
theorem unordN_pre (xs ys : List Int) : ∀ k, k ≤ xs.length → unordN (xs ++ ys) k = unordN xs k := by
  intro k
  induction k with
  | zero => intro _; rfl
  | succ k ih =>
    intro h
    rw [unordN, unordN, ih (by omega), List.getD_eq_getElem?_getD, List.getD_eq_getElem?_getD, List.getElem?_append_left (by omega)]
theorem unordN_snoc (xs : List Int) (v : Int) : ∀ d, xs.length + 1 + d ≤ 19 → unordN (xs ++ [v]) (xs.length + 1 + d) = (unordN xs (xs.length + 1 + d)).set (ordN xs.length) v := by
  intro d
  induction d with
  | zero =>
    intro h
    rw [Nat.add_zero, unordN, unordN, unordN_pre xs [v] _ (Nat.le_refl _), List.set_set]
    simp
  | succ d ih =>
    intro h
    rw [show xs.length + 1 + (d + 1) = xs.length + 1 + d + 1 by omega, unordN, unordN, ih (by omega)]
    have hne : ordN xs.length ≠ ordN (xs.length + 1 + d) := fun e => by
      have := ordN_inj ⟨xs.length, by omega⟩ ⟨xs.length + 1 + d, by omega⟩ e
      simp at this
      omega
    rw [List.set_comm _ _ hne, List.getD_eq_getElem?_getD, List.getD_eq_getElem?_getD, List.getElem?_eq_none (by simp only [List.length_append, List.length_cons, List.length_nil]; omega), List.getElem?_eq_none (by omega)]
theorem unordF_snoc (xs : List Int) (v : Int) (h : xs.length < 19) : unordF (xs ++ [v]) = (unordF xs).set (ordN xs.length) v := by
  have := unordN_snoc xs v (18 - xs.length) (by omega)
  rw [show xs.length + 1 + (18 - xs.length) = 19 by omega] at this
  exact this
theorem unordF_nil : unordF [] = zerosF 19 := by decide
theorem unordF_length (xs : List Int) : (unordF xs).length = 19 := unordN_length xs 19

theorem take_bd {bs : List Bool} {k n m : Nat} {v : Int} (h : takeG bs k n = .ok v m) : 0 ≤ v ∧ v < 2 ^ k := by
  unfold takeG at h
  split at h
  · cases h
    have hb := valOf_bd ((bs.drop n).take k)
    refine ⟨hb.1, Int.lt_of_lt_of_le hb.2 (pow2_le ?_)⟩
    simp
    omega
  · cases h
/-- What is behind the lengths of the lengths' codes. -/
def codesC (bs : List Bool) (a b : Int) (xs : List Int) (n4 : Nat) : Got (List Int × List Int) :=
  if terrF (unordF xs) = 0 then
    (lengthsG bs (unordF xs) (257 + a.toNat + (1 + b.toNat)) [] n4).bind fun l n5 =>
      if l.getD 256 0 ≠ 0 ∧ terrF (l.take (257 + a.toNat)) = 0 ∧ terrF (l.drop (257 + a.toNat)) = 0 then .ok (l.take (257 + a.toNat), l.drop (257 + a.toNat)) n5 else .bad 2
  else .bad 2
theorem codesG_eq (bs : List Bool) (n0 : Nat) : codesG bs n0 = (takeG bs 5 n0).bind fun a n1 => (takeG bs 5 n1).bind fun b n2 => (takeG bs 4 n2).bind fun c n3 =>
    if 29 < a ∨ 29 < b then .bad 2 else (lensG bs (4 + c.toNat) [] n3).bind (codesC bs a b) := rfl

/-- Where codes that are told stand: the lengths' lengths, as they are laid, up to the k-th; or a fault. -/
def DSt (bs : List Bool) (G : Got (List Int × List Int)) (a b : Int) (c4 k : Nat) (xs X : List Int) (n : Nat) (e : Int) : Prop :=
  (e = 0 → xs.length = min k c4 ∧ X = unordF xs ∧ G = (lensG bs (c4 - k) xs n).bind (codesC bs a b)) ∧ (e ≠ 0 → ∀ v m, GotR G v m e)
theorem take_nbad {bs : List Bool} {k n : Nat} : ∀ e, takeG bs k n = .bad e → e ≠ 0 := by
  intro e h
  unfold takeG at h
  split at h <;> cases h
theorem bind_nbad {α β : Type} {g : Got α} {f : α → Nat → Got β} (h1 : ∀ e, g = .bad e → e ≠ 0) (h2 : ∀ v n e, f v n = .bad e → e ≠ 0) : ∀ e, g.bind f = .bad e → e ≠ 0 := by
  intro e h
  cases g with
  | ok v n => exact h2 v n e h
  | ran => cases h
  | bad e0 => cases h; exact h1 _ rfl
theorem lengths_nbad {bs : List Bool} {T : List Int} {N : Nat} : ∀ d l n, N - l.length ≤ d → ∀ e, lengthsG bs T N l n = .bad e → e ≠ 0 := by
  intro d
  induction d with
  | zero => intro l n hd e h; rw [lengthsG, dif_pos (by omega)] at h; cases h
  | succ d ih =>
    intro l n hd e h
    rw [lengthsG] at h
    split at h
    · cases h
    · next hN =>
      refine bind_nbad sym_bad (fun c n1 => ?_) e h
      intro e h
      split at h
      · exact ih _ _ (by simp; omega) e h
      · split at h
        · split at h
          · cases h; decide
          · refine bind_nbad take_nbad (fun v n2 => ?_) e h
            intro e h
            split at h
            · cases h; decide
            · exact ih _ _ (by simp; omega) e h
        · split at h
          · refine bind_nbad take_nbad (fun v n2 => ?_) e h
            intro e h
            split at h
            · cases h; decide
            · exact ih _ _ (by simp; omega) e h
          · refine bind_nbad take_nbad (fun v n2 => ?_) e h
            intro e h
            split at h
            · cases h; decide
            · exact ih _ _ (by simp; omega) e h
theorem dst_start {bs : List Bool} {n0 n1 n2 n3 : Nat} {a b c e1 e2 e3 : Int} (h1 : GotR (takeG bs 5 n0) a n1 e1) (h2 : e1 ≠ 0 → e2 = e1) (h2' : e1 = 0 → GotR (takeG bs 5 n1) b n2 e2)
    (h3 : e2 ≠ 0 → e3 = e2) (h3' : e2 = 0 → GotR (takeG bs 4 n2) c n3 e3) :
    (e3 = 0 → (0 ≤ a ∧ a < 32) ∧ (0 ≤ b ∧ b < 32) ∧ (0 ≤ c ∧ c < 16)) ∧ ((29 < a ∨ 29 < b) → ∀ v m, GotR (codesG bs n0) v m (if e3 = 0 then 2 else e3)) ∧
    (¬ (29 < a ∨ 29 < b) → DSt bs (codesG bs n0) a b (4 + c.toNat) 0 [] (zerosF 19) n3 e3) := by
  rw [codesG_eq]
  by_cases he1 : e1 = 0
  case neg =>
    obtain rfl := h2 he1
    obtain rfl := h3 he1
    refine ⟨fun h => absurd h he1, fun _ v m => ?_, fun _ => ⟨fun h => absurd h he1, fun _ v m => gotR_bind h1 he1⟩⟩
    rw [if_neg he1]
    exact gotR_bind h1 he1
  subst he1
  have g1 := gotR_ok h1 take_nbad
  rw [g1, Got.bind_ok]
  have h2 := h2' rfl
  by_cases he2 : e2 = 0
  case neg =>
    obtain rfl := h3 he2
    refine ⟨fun h => absurd h he2, fun _ v m => ?_, fun _ => ⟨fun h => absurd h he2, fun _ v m => gotR_bind h2 he2⟩⟩
    rw [if_neg he2]
    exact gotR_bind h2 he2
  subst he2
  have g2 := gotR_ok h2 take_nbad
  rw [g2, Got.bind_ok]
  have h3 := h3' rfl
  by_cases he3 : e3 = 0
  case neg =>
    refine ⟨fun h => absurd h he3, fun _ v m => ?_, fun _ => ⟨fun h => absurd h he3, fun _ v m => gotR_bind h3 he3⟩⟩
    rw [if_neg he3]
    exact gotR_bind h3 he3
  subst he3
  have g3 := gotR_ok h3 take_nbad
  rw [g3, Got.bind_ok]
  refine ⟨fun _ => ⟨take_bd g1, take_bd g2, take_bd g3⟩, fun hx v m => ?_, fun hx => ⟨fun _ => ⟨by simp, unordF_nil.symm, ?_⟩, fun h => absurd rfl h⟩⟩
  · rw [if_pos rfl, if_pos hx]; rfl
  · rw [if_neg hx]; rfl
theorem dst_bad {bs : List Bool} {G : Got (List Int × List Int)} {a b : Int} {c4 k k' n n' : Nat} {xs xs' X X' : List Int} {e : Int} (h : DSt bs G a b c4 k xs X n e) (he : e ≠ 0) : DSt bs G a b c4 k' xs' X' n' e :=
  ⟨fun h0 => absurd h0 he, h.2⟩
theorem dst_skip {bs : List Bool} {G : Got (List Int × List Int)} {a b : Int} {c4 k n : Nat} {xs X : List Int} {e : Int} (h : DSt bs G a b c4 k xs X n e) (hk : c4 ≤ k) : DSt bs G a b c4 (k + 1) xs X n e := by
  refine ⟨fun h0 => ?_, h.2⟩
  obtain ⟨h1, h2, h3⟩ := h.1 h0
  refine ⟨by omega, h2, ?_⟩
  rw [show c4 - (k + 1) = c4 - k by omega]
  exact h3
theorem dst_take {bs : List Bool} {G : Got (List Int × List Int)} {a b : Int} {c4 k n n' : Nat} {xs X : List Int} {v e' : Int} (h : DSt bs G a b c4 k xs X n 0) (hk : k < c4) (hc : c4 ≤ 19) (ht : GotR (takeG bs 3 n) v n' e') : DSt bs G a b c4 (k + 1) (xs ++ [v]) (X.set (ordN k) v) n' e' := by
  obtain ⟨h1, h2, h3⟩ := h.1 rfl
  rw [show c4 - k = (c4 - (k + 1)) + 1 by omega, lensG] at h3
  have hxl : xs.length = k := by omega
  by_cases he : e' = 0
  · subst he
    rw [gotR_ok ht take_nbad, Got.bind_ok] at h3
    refine ⟨fun _ => ⟨by rw [List.length_append]; simp; omega, ?_, h3⟩, fun h => absurd rfl h⟩
    rw [unordF_snoc xs v (by omega), hxl, h2]
  · refine ⟨fun h0 => absurd h0 he, fun _ u m => ?_⟩
    rw [h3]
    exact gotR_bind (v := []) (m := 0) (gotR_bind ht he) he
theorem dst_end {bs : List Bool} {G : Got (List Int × List Int)} {a b : Int} {c4 n : Nat} {xs X : List Int} (h : DSt bs G a b c4 19 xs X n 0) (hc : c4 ≤ 19) : X = unordF xs ∧ G = codesC bs a b xs n := by
  obtain ⟨h1, h2, h3⟩ := h.1 rfl
  rw [show c4 - 19 = 0 by omega, lensG, Got.bind_ok] at h3
  exact ⟨h2, h3⟩
/-- Behind the table of the lengths' codes. -/
theorem codes_end {bs : List Bool} {G : Got (List Int × List Int)} {A B n n' : Nat} {xs l : List Int} {e' : Int} (hG : G = codesC bs A B xs n) :
    (terrF (unordF xs) ≠ 0 → ∀ v m, GotR G v m 2) ∧ (terrF (unordF xs) = 0 → GotR (lengthsG bs (unordF xs) (257 + A + (1 + B)) [] n) l n' e' →
      (e' ≠ 0 → ∀ v m, GotR G v m e') ∧ (e' = 0 → G = if l.getD 256 0 ≠ 0 ∧ terrF (l.take (257 + A)) = 0 ∧ terrF (l.drop (257 + A)) = 0 then .ok (l.take (257 + A), l.drop (257 + A)) n' else .bad 2)) := by
  unfold codesC at hG
  simp only [Int.toNat_natCast] at hG
  refine ⟨fun h v m => by rw [hG, if_neg h]; rfl, fun h hl => ?_⟩
  rw [if_pos h] at hG
  refine ⟨fun he v m => by rw [hG]; exact gotR_bind hl he, fun he => ?_⟩
  subst he
  rw [hG]
  have hok : lengthsG bs (unordF xs) (257 + A + (1 + B)) [] n = .ok l n' := by
    refine gotR_ok hl fun e hb => ?_
    exact lengths_nbad _ _ _ (Nat.le_refl _) e hb
  rw [hok, Got.bind_ok]
end Go.Proofs.Ytnebacnmbigaaaa
/- An array of ints by value, read at an index. -/
namespace Go.Proofs.Ytnebacnmbigaaaa
open Go.RowKit

/-- 'a[i]' of an array of ints by value. -/
theorem run_index_arr {P : Program} (t e : TypeId) (n : Nat) (cs : Array Value) (i : Nat) (v : Int) (w : World) (h : P.underlying t = some (.array n e)) (hsz : ∀ w, (sizeOf e).run P w = .ok 1 w) (hag : ∀ w, (isAgg e).run P w = .ok false w) (hi : i < n) (hv : cs[i]? = some (.int .i64 v)) :
    (Instr.index t (.agg cs) (.int .i64 i)).run P w = .ok (.int .i64 v) w := by
  have hn : (0 : Int) ≤ (i : Int) ∧ (i : Int) < (n : Int) := by omega
  simp [Instr.index, run_underlying h, asIntOf, hn, go_sem]
  rw [if_pos hi]
  simp [hsz, hag, hv, Result.andThen]
theorem int_one (w : World) : (sizeOf 3).run Try.prog w = .ok 1 w ∧ (isAgg 3).run Try.prog w = .ok false w := by
  constructor <;> go_simp
end Go.Proofs.Ytnebacnmbigaaaa
/- inflate: the walks of table, lengths behind a fault. -/
namespace Go.Proofs.Ytnebacnmbigaaaa
open Go.RowKit

/-- A table, if lengths have one. -/
def TblO (v : Value) (l : List Int) : Piece := if terrF l = 0 then ex fun t => star (fact (v = .pointer (some ⟨t, 0, none⟩))) (Tbl t l) else fact (v = .pointer none)
def eT (l : List Int) (e : Int) : Int := if terrF l = 0 then e else if e = 0 then 2 else e
theorem Own.tblo {w0 w : World} {ps : List Piece} {v : Value} {l : List Int} (H : Own w0 w (TblO v l :: ps)) (h : terrF l = 0) : ∃ t, v = .pointer (some ⟨t, 0, none⟩) ∧ Own w0 w (Tbl t l :: ps) := by
  unfold TblO at H
  rw [if_pos h] at H
  obtain ⟨t, H⟩ := H.ex
  obtain ⟨hv, H⟩ := H.star.fact
  exact ⟨t, hv, H⟩
set_option maxRecDepth 100000 in
set_option maxHeartbeats 1600000 in
theorem intable_g {w0 w : World} {ps : List Piece} {g rg n m : Nat} {l : List Int} {v : Value} {s : ByteArray} {out : List Int} {most e : Int} (hr : Rd w 1 v m (nums l)) (hm : m ≤ 1000000) (H : Own w0 w (Inr g rg s n out most e :: ps)) :
    Calls Try.prog 57 #[.pointer (some ⟨g, 0, none⟩), v] w (Ret fun r w' => Own w0 w' (TblO r l :: Inr g rg s n out most (eT l e) :: ps)) := by
  have HN := Lib.hid (hnew_any hr hm)
  obtain ⟨x, hx⟩ : ∃ x, Hid (terrF l = x) := ⟨_, rfl⟩
  rw [hx.out] at HN
  obtain ⟨a, c, rfl, _, _⟩ := hr.shape
  clear hr
  obtain ⟨E, hE⟩ : ∃ E, Hid (eT l e = E) := ⟨_, rfl⟩
  rw [hE.out]
  go_enter Try.func57, Try.ntmps57
  go_wp2_with fail
  refine HN.out.mono ?_
  rintro e1 w1 ⟨_, rfl, pv, rfl, hn1, hn2⟩
  replace hn1 := Lib.hid hn1
  replace hn2 := Lib.hid hn2
  by_cases h0 : x = 0
  · subst h0
    have hEE : Hid (e = E) := Lib.hid (by rw [← hE.out]; unfold eT; rw [if_pos hx.out])
    obtain ⟨t, rfl, H1⟩ := hn2.out rfl
    have H2 := H.join H1
    have H3 : Own w0 w1 (TblO (.pointer (some ⟨t, 0, none⟩)) l :: Inr g rg s n out most e :: ps) := by
      unfold TblO
      rw [if_pos hx.out]
      exact Own.unex (f := fun t' => Go.Proofs.Ytnebacnmbigaaaa.star (Go.Proofs.Ytnebacnmbigaaaa.fact (Value.pointer (some ⟨t, 0, none⟩) = .pointer (some ⟨t', 0, none⟩))) (Tbl t' l)) t ((H2.unfact rfl).unstar)
    clear H1 H H2 HN
    go_wp2
    go_ret
    exact ⟨_, rfl, by rw [← hEE.out]; exact H3⟩
  · obtain ⟨rfl, H1⟩ := hn1.out h0
    have hEE : Hid ((if e = 0 then 2 else e) = E) := Lib.hid (by rw [← hE.out]; exact (if_neg (by rw [hx.out]; exact h0)).symm)
    have H2 := H.join H1
    have HH := Lib.hid (infail_any (g := g) (rg := rg) 2 (by decide) H2)
    rw [hEE.out] at HH
    have hb : (x == 0) = false := by simp [h0]
    clear H1 H HN hn1 hn2
    go_wp2_with fail
    refine HH.out.mono ?_
    rintro e1 w2 ⟨_, rfl, H3⟩
    have H4 : Own w0 w2 (TblO (.pointer none) l :: Inr g rg s n out most E :: ps) := by
      unfold TblO
      rw [if_neg (by rw [hx.out]; exact h0)]
      exact H3.unfact rfl
    go_wp2
    go_ret
    exact ⟨_, rfl, H4⟩
set_option maxRecDepth 100000 in
set_option maxHeartbeats 1600000 in
theorem inlengths_bad {w0 w : World} {ps : List Piece} {g rg n : Nat} {s : ByteArray} {out : List Int} {most e : Int} (N : Nat) (ao : Option Addr) (he : e ≠ 0) (hN : 1 ≤ N) (H : Own w0 w (Inr g rg s n out most e :: ps)) :
    Calls Try.prog 58 #[.pointer (some ⟨g, 0, none⟩), .pointer ao, .int .i64 N] w (Ret fun r w' => r = .slice none 0 0 ∧ Own w0 w' (Inr g rg s n out most e :: ps)) := by
  have hmf : ∀ (fn : Fn) (first cap : Array Value) (w : World), (Instr.makeFunc fn first cap).run Try.prog w = .ok (.func fn first cap) w := fun _ _ _ _ => rfl
  go_enter Try.func58, Try.ntmps58
  go_upto_region 2 with (fail)
  replace H := H.alloc3 (.cells #[.pointer (some ⟨g, 0, none⟩)] 55) (.cells #[.int .i64 N] 3) (.cells #[.slice none 0 0] 31)
  generalize ((w.alloc (.cells #[.pointer (some ⟨g, 0, none⟩)] 55)).alloc (.cells #[.int .i64 N] 3)).alloc (.cells #[.slice none 0 0] 31) = wa at *
  obtain ⟨bL, hbL⟩ : ∃ g, w.heap.size + 1 + 1 = g := ⟨_, rfl⟩
  rw [hbL] at H ⊢
  obtain ⟨bN, hbN⟩ : ∃ g, w.heap.size + 1 = g := ⟨_, rfl⟩
  rw [hbN] at H ⊢
  generalize w.heap.size = bR at *
  clear hbL hbN
  have c0 := H.cells
  have c1 := (H.front 1 rfl).cells
  have c2 := (H.front 2 rfl).cells
  have ce := (H.front 3 rfl).inr_e
  have heb : (e == 0) = false := by simp [he]
  have hN1 : (0 : Int) < N := by omega
  have hN0 : 0 < N := by omega
  go_wp2_with fail
  refine wp_loop_rounds 1 ?_
  rw [rounds_succ]
  go_wp2
  go_ret
  exact ⟨_, rfl, rfl, H.drop.drop.drop⟩
end Go.Proofs.Ytnebacnmbigaaaa
/- inflate: the walk of dynamic. -/
namespace Go.Proofs.Ytnebacnmbigaaaa
open Go.RowKit

/-- What dynamic leaves. -/
def DynPost (w0 : World) (ps : List Piece) (g rg : Nat) (s : ByteArray) (out : List Int) (most : Int) (G : Got (List Int × List Int)) (r : Value) (w' : World) : Prop :=
  ∃ ao bo T n' e', r = .tuple #[.pointer ao, .pointer bo] ∧ n' ≤ 8 * s.size ∧ GotR G T n' e' ∧
    (e' = 0 → TabOk T.1 ∧ TabOk T.2 ∧ ∃ a b, ao = some ⟨a, 0, none⟩ ∧ bo = some ⟨b, 0, none⟩ ∧ Own w0 w' (Inr g rg s n' out most 0 :: Tbl a T.1 :: Tbl b T.2 :: ps)) ∧
    (e' ≠ 0 → Own w0 w' (Inr g rg s n' out most e' :: ps))

theorem arr_row {w : World} {g : Nat} {t : TypeId} {X : List Int} (h : w.heap[g]? = some (.cells (nums X).toArray t)) (hX : X.length ≤ 1000000) : Rd w 1 (.slice (some ⟨g, 0, none⟩) X.length X.length) X.length (nums X) := by
  refine ⟨by rw [nums_length]; omega, _, _, rfl, Nat.le_refl _, by unfold maxLen; omega, by simp, fun ad had j u hu => ?_⟩
  obtain rfl := Option.some.inj had
  rw [Addr.add_lit, Nat.zero_add, cell_of_block h, List.getElem?_toArray]
  exact hu
theorem Own.tblo_none {w0 w : World} {ps : List Piece} {v : Value} {l : List Int} (H : Own w0 w (TblO v l :: ps)) (h : terrF l ≠ 0) : v = .pointer none ∧ Own w0 w ps := by
  unfold TblO at H
  rw [if_neg h] at H
  exact H.fact
theorem tab_ok {l : List Int} (h : terrF l = 0) : TabOk l := by
  obtain ⟨h1, h2, h3⟩ := table_ok h
  exact ⟨h2, h3, by omega⟩
/-- A table that may be made already. -/
def optT (l : List Int) : Option Value → List Piece
  | none => []
  | some v => [TblO v l]
/-- The fault behind two tables, of which each may be made already. -/
def eF (l1 l2 : List Int) (e : Int) (a b : Option Value) : Int := if (a.isSome = true ∧ terrF l1 ≠ 0) ∨ (b.isSome = true ∧ terrF l2 ≠ 0) then (if e = 0 then 2 else e) else e
theorem eF_left {l1 l2 : List Int} {e : Int} {a b : Option Value} {v : Value} : eT l1 (eF l1 l2 e a b) = eF l1 l2 e (some v) b := by
  unfold eT eF
  simp only [Option.isSome_some, true_and]
  by_cases h1 : terrF l1 = 0
  · simp [h1]
  · simp only [h1, if_false, ne_eq, not_false_eq_true, and_true, true_or, if_true]
    repeat' split
    all_goals omega
theorem eF_right {l1 l2 : List Int} {e : Int} {a b : Option Value} {v : Value} : eT l2 (eF l1 l2 e a b) = eF l1 l2 e a (some v) := by
  unfold eT eF
  simp only [Option.isSome_some, true_and]
  by_cases h1 : terrF l2 = 0
  · simp [h1]
  · simp only [h1, if_false, ne_eq, not_false_eq_true, and_true, or_true, if_true]
    repeat' split
    all_goals omega
theorem Own.opt_left {w0 w : World} {A B : Piece} {l1 l2 : List Int} {a b : Option Value} {r : Value} {ps : List Piece} (H : Own w0 w (TblO r l1 :: A :: B :: (optT l1 a ++ (optT l2 b ++ ps)))) : Own w0 w (A :: B :: (optT l1 (some r) ++ (optT l2 b ++ ps))) := by
  cases a with
  | none => exact (H.front 2 rfl).front 2 rfl
  | some v => exact (((H.front 3 rfl).drop.front 2 rfl).front 2 rfl)
theorem Own.opt_right {w0 w : World} {A B : Piece} {l1 l2 : List Int} {a b : Option Value} {r : Value} {ps : List Piece} (H : Own w0 w (TblO r l2 :: A :: B :: (optT l1 a ++ (optT l2 b ++ ps)))) : Own w0 w (A :: B :: (optT l1 a ++ (optT l2 (some r) ++ ps))) := by
  cases a with
  | none =>
    cases b with
    | none => exact (H.front 2 rfl).front 2 rfl
    | some v => exact (((H.front 3 rfl).drop.front 2 rfl).front 2 rfl)
  | some u =>
    cases b with
    | none => exact ((H.front 3 rfl).front 3 rfl).front 3 rfl
    | some v => exact ((((H.front 4 rfl).drop.front 3 rfl).front 3 rfl).front 3 rfl)

set_option maxRecDepth 100000 in
set_option maxHeartbeats 3200000 in
theorem indynamic_any {w0 w : World} {ps : List Piece} {g rg n : Nat} {s : ByteArray} {out : List Int} {most : Int} (hs : s.size ≤ 1000000) (hn : n ≤ 8 * s.size) (H : Own w0 w (Inr g rg s n out most 0 :: ps)) :
    Calls Try.prog 33 #[.pointer (some ⟨g, 0, none⟩)] w (Ret (DynPost w0 ps g rg s out most (codesG (textBits s) n))) := by
  obtain ⟨B, hB⟩ : ∃ B, Hid (textBits s = B) := ⟨_, rfl⟩
  obtain ⟨G, hG⟩ : ∃ G, Hid (codesG B n = G) := ⟨_, rfl⟩
  rw [hB.out, hG.out]
  go_enter Try.func33, Try.ntmps33
  have HT := Lib.hid (intake_any 5 (by omega) H hs hn)
  go_wp2_with fail
  refine HT.out.mono ?_
  rintro e w1 ⟨_, rfl, v1, n1, e1, rfl, hv1, hv1', hn1, -, hg1, H1⟩
  replace hg1 := Lib.hid (hg1 trivial)
  clear HT H
  have HT := Lib.hid (intake_any 5 (by omega) H1 hs hn1)
  go_wp2_with fail
  refine HT.out.mono ?_
  rintro e w2 ⟨_, rfl, v2, n2, e2, rfl, hv2, hv2', hn2, he2, hg2, H2⟩
  replace hg2 := Lib.hid hg2
  replace he2 := Lib.hid he2
  clear HT H1
  have HT := Lib.hid (intake_any 4 (by omega) H2 hs hn2)
  go_wp2_with fail
  refine HT.out.mono ?_
  rintro e w3 ⟨_, rfl, v3, n3, e3, rfl, hv3, hv3', hn3, he3, hg3, H⟩
  have hst := Lib.hid (dst_start hg1.out he2.out hg2.out he3 hg3)
  clear HT H2 hg1 hg2 he2 hg3 he3
  rw [hB.out, hG.out] at hst
  obtain ⟨A, rfl⟩ : ∃ A : Nat, v1 = A := ⟨v1.toNat, by omega⟩
  obtain ⟨D, rfl⟩ : ∃ D : Nat, v2 = D := ⟨v2.toNat, by omega⟩
  obtain ⟨C, rfl⟩ : ∃ C : Nat, v3 = C := ⟨v3.toNat, by omega⟩
  have hw1 : IntKind.i64.wrap (257 + (A : Int)) = 257 + (A : Int) := IntWalk.i64_in _ ⟨by omega, by omega⟩
  have hw2 : IntKind.i64.wrap (1 + (D : Int)) = 1 + (D : Int) := IntWalk.i64_in _ ⟨by omega, by omega⟩
  have hw3 : IntKind.i64.wrap (4 + (C : Int)) = 4 + (C : Int) := IntWalk.i64_in _ ⟨by omega, by omega⟩
  go_upto_region 2 with (fail)
  go_cut [26] (fun s26 wx => wx = w3 ∧ s26 = .bool (decide (29 < A ∨ 29 < D)))
  case first =>
    by_cases h1 : 29 < A
    · have h1' : (286 : Int) < 257 + (A : Int) := by omega
      have hd : decide (29 < A ∨ 29 < D) = true := by simp [h1]
      go_wp2
      go_meet
      exact ⟨rfl, by rw [hd]⟩
    · have h1' : ¬ (286 : Int) < 257 + (A : Int) := by omega
      by_cases h2 : 29 < D
      · have h2' : (30 : Int) < 1 + (D : Int) := by omega
        have hd : decide (29 < A ∨ 29 < D) = true := by simp [h2]
        go_wp2
        go_meet
        exact ⟨rfl, by rw [hd]⟩
      · have h2' : ¬ (30 : Int) < 1 + (D : Int) := by omega
        have hd : decide (29 < A ∨ 29 < D) = false := by simp; omega
        go_wp2
        go_meet
        exact ⟨rfl, by rw [hd]⟩
  case rest =>
    obtain ⟨rfl, rfl⟩ := hcut
    replace hst : Hid ((e3 = 0 → A < 32 ∧ D < 32 ∧ C < 16) ∧ ((29 < A ∨ 29 < D) → ∀ (v : List Int × List Int) (m : Nat), GotR G v m (if e3 = 0 then 2 else e3)) ∧ (¬ (29 < A ∨ 29 < D) → DSt B G A D (4 + C) 0 [] (zerosF 19) n3 e3)) := Lib.hid (by
      have h := hst.out
      simp only [Int.toNat_natCast] at h
      refine ⟨fun h0 => by have := h.1 h0; omega, fun hx => h.2.1 (by omega), fun hx => h.2.2 (by omega)⟩)
    go_upto_if 26 with (fail)
    go_cut [] (fun wx => ∃ e4 : Int, Hid (e4 = 0 → A ≤ 29 ∧ D ≤ 29 ∧ C < 16) ∧ Hid (DSt B G A D (4 + C) 0 [] (zerosF 19) n3 e4) ∧ Own w0 wx (Inr g rg s n3 out most e4 :: ps))
    case first =>
      by_cases hx : 29 < A ∨ 29 < D
      · have hb : decide (29 < A ∨ 29 < D) = true := by simp [hx]
        have h2 := hst.out.2.1 hx
        rw [hb]
        clear hx hb
        have HH := Lib.hid (infail_any (g := g) (rg := rg) 2 (by decide) H)
        obtain ⟨e4, he4⟩ : ∃ e4, Hid ((if e3 = 0 then 2 else e3) = e4) := ⟨_, rfl⟩
        have hne : Hid (e4 ≠ 0) := Lib.hid (by rw [← he4.out]; split <;> omega)
        rw [he4.out] at HH h2
        replace h2 := Lib.hid h2
        go_wp2_with fail
        refine HH.out.mono ?_
        rintro e w4 ⟨_, rfl, H4⟩
        clear HH
        go_wp2
        go_meet
        exact ⟨e4, Lib.hid fun h => absurd h hne.out, Lib.hid ⟨fun h => absurd h hne.out, fun _ => h2.out⟩, H4⟩
      · have hb : decide (29 < A ∨ 29 < D) = false := by simp; omega
        have h2 := Lib.hid (hst.out.2.2 hx)
        have h3 : Hid (e3 = 0 → A ≤ 29 ∧ D ≤ 29 ∧ C < 16) := Lib.hid fun h0 => by have := hst.out.1 h0; omega
        rw [hb]
        clear hx hb
        go_wp2
        go_meet
        exact ⟨e3, h3, h2, H⟩
    case rest =>
    clear hst H
    obtain ⟨e4, hb4, hst, H⟩ := hcut
    clear hv1 hv2 hv3 hw1 hw2 hw3 hv1' hv2'
    go_upto_region 5 with (fail)
    have HA := H.alloc (.cells #[.int .i64 0, .int .i64 0, .int .i64 0, .int .i64 0, .int .i64 0, .int .i64 0, .int .i64 0, .int .i64 0, .int .i64 0, .int .i64 0, .int .i64 0, .int .i64 0, .int .i64 0, .int .i64 0, .int .i64 0, .int .i64 0, .int .i64 0, .int .i64 0, .int .i64 0] 105)
    generalize wc.alloc _ = w5 at *
    generalize wc.heap.size = bA at *
    clear H
    go_cut [29, 30] (fun s29 s30 wx => wx = w5 ∧ s30 = .int .i64 0 ∧ ∃ OA, s29 = .agg OA ∧ Hid (∀ i, i < 19 → OA[i]? = some (.int .i64 ((ordN i : Nat) : Int))))
    case first =>
      go_wp2
      go_meet
      refine ⟨rfl, rfl, _, rfl, Lib.hid fun i hi => ?_⟩
      have : i = 0 ∨ i = 1 ∨ i = 2 ∨ i = 3 ∨ i = 4 ∨ i = 5 ∨ i = 6 ∨ i = 7 ∨ i = 8 ∨ i = 9 ∨ i = 10 ∨ i = 11 ∨ i = 12 ∨ i = 13 ∨ i = 14 ∨ i = 15 ∨ i = 16 ∨ i = 17 ∨ i = 18 := by omega
      rcases this with rfl | rfl | rfl | rfl | rfl | rfl | rfl | rfl | rfl | rfl | rfl | rfl | rfl | rfl | rfl | rfl | rfl | rfl | rfl <;> rfl
    case rest =>
    obtain ⟨rfl, rfl, OA, rfl, hOA⟩ := hcut
    go_wp2_with fail
    go_loopw [30] (fun s30 wx => ∃ (k : Nat) (xs X : List Int) (n4 : Nat) (e : Int), s30 = .int .i64 k ∧ k ≤ 19 ∧ X.length = 19 ∧ n4 ≤ 8 * s.size ∧ Hid (e = 0 → A ≤ 29 ∧ D ≤ 29 ∧ C < 16) ∧ Hid (DSt B G A D (4 + C) k xs X n4 e) ∧ Own w0 wx (blk bA (.cells (nums X).toArray 105) :: Inr g rg s n4 out most e :: ps)) (fun s30 _ => 19 - (intOf s30).toNat)
    case atStart => exact ⟨0, [], zerosF 19, n3, e4, by go_num, by omega, rfl, hn3, hb4, hst, HA⟩
    case round =>
      clear HA hst hb4
      obtain ⟨k, xs, X, n4, e, rfl, hk, hX, hn4, hb4, hst, H⟩ := hrel
      replace hX := Lib.hid hX
      have ce := (H.front 1 rfl).inr_e
      by_cases hk19 : k < 19
      · have hkI : (k : Int) < 19 := by omega
        have hix : ∀ w, (Instr.index 105 (.agg OA) (.int .i64 k)).run Try.prog w = .ok (.int .i64 ((ordN k : Nat) : Int)) w := fun w => run_index_arr _ _ 19 OA k _ w Try.underlying105 (fun w => (int_one w).1) (fun w => (int_one w).2) hk19 (hOA.out k hk19)
        have ho19 := ordN_lt ⟨k, hk19⟩
        simp only at ho19
        obtain ⟨oj, hoj⟩ : ∃ oj, Hid (ordN k = oj) := ⟨_, rfl⟩
        rw [hoj.out] at hix ho19
        have hojI : (oj : Int) < 19 := by omega
        by_cases hkc : k < 4 + C
        · have hkcI : (k : Int) < 4 + (C : Int) := by omega
          by_cases he : e = 0
          · subst he
            obtain ⟨hA29, hD29, hC16⟩ := hb4.out rfl
            have HT := Lib.hid (intake_any 3 (by omega) (H.front 1 rfl) hs hn4)
            go_wp2_with fail
            refine HT.out.mono ?_
            rintro e0 w6 ⟨_, rfl, v, n5, e5, rfl, hv1, hv2, hn5, -, hg, H1⟩
            have hst2 := Lib.hid (dst_take hst.out hkc (by omega) (by have h := hg trivial; rw [hB.out] at h; exact h))
            rw [hoj.out] at hst2
            clear HT H ce hst hg
            have H := H1.front 1 rfl
            clear H1
            go_wp2_with (refine wpList_store_int rfl _ _ rfl rfl H rfl (by kernel_rfl) (by simp [nums, hX.out]; omega) ?_; clear H; intro w7 H)
            go_roundw
            case rel => exact ⟨k + 1, xs ++ [v], X.set oj v, n5, e5, by go_num, by omega, by rw [List.length_set]; exact hX.out, hn5, Lib.hid fun _ => ⟨hA29, hD29, hC16⟩, hst2, by rw [← arr_set]; exact H⟩
            case measure => simp [intOf]; omega
          · have heb : (e == 0) = false := by simp [he]
            have hst2 := Lib.hid (dst_bad (k' := k + 1) (xs' := xs) (X' := X) (n' := n4) hst.out he)
            clear hst he
            go_wp2_with fail
            go_roundw
            case rel => exact ⟨k + 1, xs, X, n4, e, by go_num, by omega, hX.out, hn4, hb4, hst2, H⟩
            case measure => simp [intOf]; omega
        · have hkcI : ¬ (k : Int) < 4 + (C : Int) := by omega
          have hst2 := Lib.hid (dst_skip hst.out (by omega))
          clear hst
          go_wp2_with fail
          go_roundw
          case rel => exact ⟨k + 1, xs, X, n4, e, by go_num, by omega, hX.out, hn4, hb4, hst2, H⟩
          case measure => simp [intOf]; omega
      · obtain rfl : k = 19 := by omega
        clear hk hk19
        have hkI : ¬ ((19 : Nat) : Int) < 19 := by omega
        by_cases he : e = 0
        case neg =>
          have heb : (e != 0) = true := by simp [he]
          have hbad := Lib.hid (hst.out.2 he)
          replace he := Lib.hid he
          clear hst hb4
          go_wp2_with fail
          go_ret2
          exact ⟨_, rfl, none, none, ([], []), n4, e, rfl, hn4, hbad.out _ _, fun h => absurd h he.out, fun _ => H.drop⟩
        subst he
        obtain ⟨hA29, hD29, hC16⟩ := hb4.out rfl
        obtain ⟨hXe, hGe⟩ := dst_end hst.out (by omega)
        replace hXe := Lib.hid hXe
        replace hGe := Lib.hid hGe
        clear hst hb4
        have hrow := arr_row H.block.1 (by rw [hX.out]; omega)
        rw [hX.out] at hrow
        have HTB := Lib.hid (intable_g hrow (by omega) (H.front 1 rfl))
        clear hrow
        go_wp2_with fail
        refine HTB.out.mono ?_
        rintro e0 w6 ⟨pt, rfl, H1⟩
        clear HTB H ce
        have hwN : IntKind.i64.wrap (257 + (A : Int) + (1 + (D : Int))) = 257 + (A : Int) + (1 + (D : Int)) := IntWalk.i64_in _ ⟨by omega, by omega⟩
        by_cases ht : terrF X = 0
        case neg =>
          obtain ⟨rfl, H2⟩ := H1.tblo_none ht
          have hE : eT X 0 = 2 := by unfold eT; rw [if_neg ht, if_pos rfl]
          rw [hE] at H2
          have hbad := Lib.hid ((codes_end (n' := 0) (l := []) (e' := 0) hGe.out).1 (by rw [← hXe.out]; exact ht))
          have HL := Lib.hid (inlengths_bad (g := g) (rg := rg) (257 + A + (1 + D)) none (by decide) (by omega) H2)
          rw [show ((257 + A + (1 + D) : Nat) : Int) = 257 + (A : Int) + (1 + (D : Int)) by omega] at HL
          clear hE H1 H2 ht hGe
          go_wp2_with fail
          refine HL.out.mono ?_
          rintro e0 w7 ⟨_, rfl, rfl, H3⟩
          have ce := H3.inr_e
          go_wp2_with fail
          go_ret2
          exact ⟨_, rfl, none, none, ([], []), n4, 2, rfl, hn4, hbad.out _ _, fun h => absurd h (by decide), fun _ => (H3.front 1 rfl).drop⟩
        obtain ⟨t, rfl, H2⟩ := H1.tblo ht
        have hE : eT X 0 = 0 := by unfold eT; rw [if_pos ht]
        rw [hE] at H2
        have HL := Lib.hid (inlengths_any (g := g) (rg := rg) (257 + A + (1 + D)) (tab_ok ht) (by omega) hs hn4 H2.swap)
        rw [show ((257 + A + (1 + D) : Nat) : Int) = 257 + (A : Int) + (1 + (D : Int)) by omega, hB.out] at HL
        replace ht := Lib.hid ht
        clear hE H1 H2
        go_wp2_with fail
        refine HL.out.mono ?_
        rintro e0 w7 ⟨_, rfl, l, n5, e5, hn5, hl1, hl2, hg5, H3⟩
        have hce := Lib.hid ((codes_end (n' := n5) (l := l) (e' := e5) hGe.out).2 (by rw [← hXe.out]; exact ht.out) (by rw [← hXe.out]; exact hg5))
        clear HL hGe hg5
        have ce := (H3.front 1 rfl).inr_e
        obtain ⟨a, c, rfl, hc1, hc2⟩ := H3.rd.shape
        by_cases he5 : e5 = 0
        case neg =>
          have heb : (e5 != 0) = true := by simp [he5]
          have hbad := Lib.hid (hce.out.1 he5)
          replace he5 := Lib.hid he5
          clear hce hl2
          go_wp2_with fail
          go_ret2
          exact ⟨_, rfl, none, none, ([], []), n5, e5, rfl, hn5, hbad.out _ _, fun h => absurd h he5.out, fun _ => ((H3.drop.front 1 rfl).drop.front 1 rfl).drop⟩
        subst he5
        have hlN := Lib.hid (hl2 rfl)
        have hGl := Lib.hid (hce.out.2 rfl)
        clear hl1 hl2 hce
        obtain ⟨bl, c', hbl, -, -, -, -, hcl, -⟩ := H3.at (by rw [nums_length, hlN.out]; omega)
        cases hbl
        have c256 : w7.cell? ⟨bl, 256, none⟩ = some (.int .i64 (l.getD 256 0)) := hcl 256 _ (nums_get (getD_get (by rw [hlN.out]; omega)))
        obtain ⟨x, hx⟩ : ∃ x, Hid (l.getD 256 0 = x) := ⟨_, rfl⟩
        rw [hx.out] at c256 hGl
        replace hcl := Lib.hid hcl
        obtain ⟨M, hM⟩ : ∃ M, Hid (l.length = M) := ⟨_, rfl⟩
        rw [hM.out] at H3 hlN hc1 ⊢
        have hMb : 257 + A + 1 ≤ M := by have := hlN.out; omega
        have hMb2 : M ≤ 400 := by have := hlN.out; omega
        have h256 : (256 : Int) < (M : Int) := by omega
        go_upto_if 71 with (fail)
        obtain ⟨bx, hbx⟩ : ∃ b, Hid ((x == 0) = b) := ⟨_, rfl⟩
        rw [hbx.out]
        go_cut [] (fun wx => ∃ e6 : Int, Hid (e6 = if x = 0 then 2 else 0) ∧ Own w0 wx (slc 3 1 (.slice (some ⟨bl, 0, none⟩) M c) M (nums l) :: Inr g rg s n5 out most e6 :: Tbl t X :: blk bA (.cells (nums X).toArray 105) :: ps))
        case first =>
          cases bx
          case true =>
            have he0 : Hid ((2 : Int) = if x = 0 then 2 else 0) := Lib.hid (if_pos (by simpa using hbx.out)).symm
            have HH := Lib.hid (infail_any (g := g) (rg := rg) 2 (by decide) (H3.front 1 rfl))
            go_wp2_with fail
            refine HH.out.mono ?_
            rintro e w4 ⟨_, rfl, H4⟩
            clear HH
            go_wp2
            go_meet
            exact ⟨2, he0, H4.front 1 rfl⟩
          case false =>
            have he0 : Hid ((0 : Int) = if x = 0 then 2 else 0) := Lib.hid (if_neg (by simpa using hbx.out)).symm
            go_wp2
            go_meet
            exact ⟨0, he0, H3⟩
        case rest =>
        clear c256 H3 ce
        obtain ⟨e6, he6, H⟩ := hcut
        obtain ⟨l1, hl1⟩ : ∃ l1, Hid (l.take (257 + A) = l1) := ⟨_, rfl⟩
        obtain ⟨l2, hl2⟩ : ∃ l2, Hid (l.drop (257 + A) = l2) := ⟨_, rfl⟩
        rw [hl1.out, hl2.out] at hGl
        have hrd : ∀ (w1 : World) (qs : List Piece), Own w0 w1 (slc 3 1 (.slice (some ⟨bl, 0, none⟩) M c) M (nums l) :: qs) → Rd w1 1 (.slice (some ⟨bl, 0, none⟩) (257 + A) c) (257 + A) (nums l1) ∧ Rd w1 1 (.slice (some ⟨bl, 257 + A, none⟩) (M - (257 + A)) (c - (257 + A))) (M - (257 + A)) (nums l2) := fun w1 qs h => by
          have h1 := h.rd.take (k := 257 + A) (by omega)
          have h2 := h.rd.tail (k := 257 + A) (by omega)
          simp only [Nat.mul_one, Addr.add_lit, Nat.zero_add, nums, ← List.map_take, ← List.map_drop, hl1.out, hl2.out] at h1 h2
          exact ⟨h1, h2⟩
        replace hrd := Lib.hid hrd
        have hk1 : (257 : Int) + (A : Int) ≤ c := by omega
        have hk2 : (257 : Int) + (A : Int) ≤ M := by omega
        have hk3 : (0 : Int) ≤ 257 + (A : Int) := by omega
        have hk4 : ((257 : Int) + (A : Int)).toNat = 257 + A := by omega
        have hk5 : ¬ (257 + A = c) := by omega
        have hk6 : ¬ (c = 257 + A) := by omega
        have hk7 : M ≤ c := hc1
        go_upto_region 19 with (fail)
        have HD0 : Own w0 wc (Inr g rg s n5 out most (eF l1 l2 e6 none none) :: slc 3 1 (.slice (some ⟨bl, 0, none⟩) M c) M (nums l) :: (optT l1 none ++ (optT l2 none ++ (Tbl t X :: blk bA (.cells (nums X).toArray 105) :: ps)))) := by
          have : eF l1 l2 e6 none none = e6 := by simp [eF]
          rw [this]
          exact H.front 1 rfl
        refine wp_region_new (fun σ w1 => Own w0 w1 (Inr g rg s n5 out most (eF l1 l2 e6 (σ 4) (σ 9)) :: slc 3 1 (.slice (some ⟨bl, 0, none⟩) M c) M (nums l) :: (optT l1 (σ 4) ++ (optT l2 (σ 9) ++ (Tbl t X :: blk bA (.cells (nums X).toArray 105) :: ps))))) 10 [4, 9] (by kernel_rfl) (by kernel_rfl) HD0.drew ?_
        simp only [List.take_succ_cons, List.take_zero, List.drop_succ_cons, List.drop_zero]
        repeat
          first
          | (refine calm_value (v := ?_) (by decide) rfl (fun σ w1 hS => ?_) ?_
             rotate_left
             · skip
               first | (go_simp; rfl) | rfl
             simp only [Act.put, List.setIfInBounds_toArray, List.set_cons_zero, List.set_cons_succ])
          | (refine calm_skip (by decide) rfl ?_
             simp only [Act.put, List.setIfInBounds_toArray, List.set_cons_zero, List.set_cons_succ])
        refine ncalm_call (by decide) (fun w1 => (by go_simp; first | exact ⟨rfl, rfl⟩ | rfl)) (fun σ w1 hS => ?_) ?_
        · refine (intable_g (hrd.out _ _ (hS.front 1 rfl)).1 (by omega) hS).mono ?_
          rintro e w8 ⟨r, rfl, h8⟩
          refine ⟨r, rfl, ?_⟩
          rw [eF_left (v := r)] at h8
          have h9 := h8.opt_left
          simpa [Sig.upd] using h9
        repeat
          first
          | (refine calm_value (v := ?_) (by decide) rfl (fun σ w1 hS => ?_) ?_
             rotate_left
             · skip
               first | (go_simp; rfl) | rfl
             simp only [Act.put, List.setIfInBounds_toArray, List.set_cons_zero, List.set_cons_succ])
          | (refine calm_skip (by decide) rfl ?_
             simp only [Act.put, List.setIfInBounds_toArray, List.set_cons_zero, List.set_cons_succ])
        refine ncalm_call (by decide) (fun w1 => (by go_simp; first | exact ⟨rfl, rfl⟩ | rfl)) (fun σ w1 hS => ?_) ?_
        · refine (intable_g (hrd.out _ _ (hS.front 1 rfl)).2 (by omega) hS).mono ?_
          rintro e w8 ⟨r, rfl, h8⟩
          refine ⟨r, rfl, ?_⟩
          rw [eF_right (v := r)] at h8
          have h9 := h8.opt_right
          simpa [Sig.upd] using h9
        refine calm_nil ?_
        intro σ wd hσ HD
        obtain ⟨v4, hv4⟩ := Option.isSome_iff_exists.1 (hσ 4 (by decide))
        obtain ⟨v9, hv9⟩ := Option.isSome_iff_exists.1 (hσ 9 (by decide))
        rw [hv4, hv9] at HD
        simp only [putNew, List.foldl_cons, List.foldl_nil, hv4, hv9]
        simp only [Act.put, List.setIfInBounds_toArray, List.set_cons_zero, List.set_cons_succ, List.getElem?_cons_succ, List.getElem?_cons_zero, Option.bind_some, Option.getD_some]
        clear hσ hv4 hv9 hrd HD0 H
        obtain ⟨eL, heL⟩ : ∃ eL, Hid (eF l1 l2 e6 (some v4) (some v9) = eL) := ⟨_, rfl⟩
        rw [heL.out] at HD
        have HE : Own w0 wd (TblO v4 l1 :: TblO v9 l2 :: Inr g rg s n5 out most eL :: slc 3 1 (.slice (some ⟨bl, 0, none⟩) M c) M (nums l) :: Tbl t X :: blk bA (.cells (nums X).toArray 105) :: ps) := (HD.front 3 rfl).front 3 rfl
        clear HD
        have hfin : Hid (∃ ao bo, v4 = .pointer ao ∧ v9 = .pointer bo ∧ GotR G (l1, l2) n5 eL ∧ (eL = 0 → TabOk l1 ∧ TabOk l2 ∧ ∃ a b, ao = some ⟨a, 0, none⟩ ∧ bo = some ⟨b, 0, none⟩ ∧ Own w0 wd (Inr g rg s n5 out most 0 :: Tbl a l1 :: Tbl b l2 :: ps)) ∧ (eL ≠ 0 → Own w0 wd (Inr g rg s n5 out most eL :: ps))) := Lib.hid (by
          have hnil : eL ≠ 0 → Own w0 wd (Inr g rg s n5 out most eL :: ps) := fun _ => (((HE.drop.drop.front 1 rfl).drop.front 1 rfl).drop.front 1 rfl).drop
          have e6c := he6.out
          have eLc := heL.out
          unfold eF at eLc
          simp only [Option.isSome_some, true_and] at eLc
          have hGc := hGl.out
          by_cases t1 : terrF l1 = 0
          · obtain ⟨a, rfl, HF⟩ := HE.tblo t1
            by_cases t2 : terrF l2 = 0
            · obtain ⟨b, rfl, HJ⟩ := (HF.front 1 rfl).tblo t2
              refine ⟨_, _, rfl, rfl, ?_, fun h0 => ⟨tab_ok t1, tab_ok t2, a, b, rfl, rfl, ?_⟩, hnil⟩
              · rw [if_neg (by simp [t1, t2])] at eLc
                by_cases hx0 : x = 0
                · rw [if_pos hx0] at e6c
                  rw [if_neg (by simp [hx0])] at hGc
                  rw [hGc, ← eLc, e6c]; rfl
                · rw [if_neg hx0] at e6c
                  rw [if_pos ⟨hx0, t1, t2⟩] at hGc
                  rw [hGc, ← eLc, e6c]; exact ⟨rfl, rfl, rfl⟩
              · rw [h0] at HJ
                have HK : Own w0 wd (Tbl b l2 :: Tbl a l1 :: Inr g rg s n5 out most 0 :: ps) := ((((HJ.front 3 rfl).drop.front 3 rfl).drop.front 3 rfl).drop)
                exact (HK.front 1 rfl).front 2 rfl
            · obtain ⟨rfl, HJ⟩ := (HF.front 1 rfl).tblo_none t2
              rw [if_pos (.inr t2)] at eLc
              have : eL = 2 := by rw [← eLc, e6c]; split <;> split <;> simp_all
              rw [if_neg (by simp [t2])] at hGc
              refine ⟨_, _, rfl, rfl, by rw [hGc, this]; rfl, fun h0 => by omega, hnil⟩
          · obtain ⟨rfl, HF⟩ := HE.tblo_none t1
            rw [if_pos (.inl t1)] at eLc
            have : eL = 2 := by rw [← eLc, e6c]; split <;> split <;> simp_all
            rw [if_neg (by simp [t1])] at hGc
            by_cases t2 : terrF l2 = 0
            · obtain ⟨b, rfl, HJ⟩ := HF.tblo t2
              exact ⟨_, _, rfl, rfl, by rw [hGc, this]; rfl, fun h0 => by omega, hnil⟩
            · obtain ⟨rfl, HJ⟩ := HF.tblo_none t2
              exact ⟨_, _, rfl, rfl, by rw [hGc, this]; rfl, fun h0 => by omega, hnil⟩)
        obtain ⟨ao, bo, rfl, rfl, hf1, hf2, hf3⟩ := hfin.out
        replace hf1 := Lib.hid hf1
        replace hf2 := Lib.hid hf2
        replace hf3 := Lib.hid hf3
        clear hfin HE
        go_wp2_with fail
        go_ret2
        exact ⟨_, rfl, ao, bo, (l1, l2), n5, eL, rfl, hn5, hf1.out, hf2.out, hf3.out⟩
end Go.Proofs.Ytnebacnmbigaaaa
