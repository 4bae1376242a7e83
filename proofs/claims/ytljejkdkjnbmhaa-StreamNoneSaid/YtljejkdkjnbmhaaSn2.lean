/-
  Texts of this claim, one behind the other: inflate; inflate; inflate; stream; huff; huff; huff; Bits; huff; Bits; Bits; Bits; stream; As XCalm; A call that changes what there is, in a region that draws its order; slices.Repeat; copy into a row of the call's own; slices.Repeat of one int; slices.Grow of nil, slices.Concat; As XTrk; flate; stream.
-/
import Derived.Test.YtljejkdkjnbmhaaSn1
import Derived.Laws.ResultCell
import Derived.Deep.OwnRows
import Derived.Deep.LoopGhost
import Derived.WalkLawsBesides
import Derived.WalkSpells
import Derived.Deep.DeepCutAuto
import Derived.Deep.CutBlock
import Derived.Test.YtljejkdkjnbmhaaRows
import Derived.Laws.CopyOwn
import Derived.Lib.AppendZeros
set_option linter.unusedVariables false
/- inflate: codes that are told, plainly: as they are taken. No program in sight. -/
namespace Go.Proofs.Ytljejkdkjnbmhaa

theorem ordN_inj : ∀ i j : Fin 19, ordN i = ordN j → i = j := by decide
theorem unordN_pre (xs ys : List Int) : ∀ k, k ≤ xs.length → unordN (xs ++ ys) k = unordN xs k := by
  intro k
  induction k with
  | zero => intro _; rfl
  | succ k ih =>
    intro h
    rw [unordN, unordN, ih (by omega), List.getD_eq_getElem?_getD, List.getD_eq_getElem?_getD, List.getElem?_append_left (by omega)]
theorem unordN_snoc (xs : List Int) (v : Int) : ∀ d, xs.length + 1 + d ≤ 19 → unordN (xs ++ [v]) (xs.length + 1 + d) = (unordN xs (xs.length + 1 + d)).set (ordN xs.length) v := by
  intro d
  induction d with
  | zero =>
    intro h
    rw [Nat.add_zero, unordN, unordN, unordN_pre xs [v] _ (Nat.le_refl _), List.set_set]
    simp
  | succ d ih =>
    intro h
    rw [show xs.length + 1 + (d + 1) = xs.length + 1 + d + 1 by omega, unordN, unordN, ih (by omega)]
    have hne : ordN xs.length ≠ ordN (xs.length + 1 + d) := fun e => by
      have := ordN_inj ⟨xs.length, by omega⟩ ⟨xs.length + 1 + d, by omega⟩ e
      simp at this
      omega
    rw [List.set_comm _ _ hne, List.getD_eq_getElem?_getD, List.getD_eq_getElem?_getD, List.getElem?_eq_none (by simp only [List.length_append, List.length_cons, List.length_nil]; omega), List.getElem?_eq_none (by omega)]
theorem unordF_snoc (xs : List Int) (v : Int) (h : xs.length < 19) : unordF (xs ++ [v]) = (unordF xs).set (ordN xs.length) v := by
  have := unordN_snoc xs v (18 - xs.length) (by omega)
  rw [show xs.length + 1 + (18 - xs.length) = 19 by omega] at this
  exact this
theorem unordF_nil : unordF [] = zerosF 19 := by decide
theorem take_bd {bs : List Bool} {k n m : Nat} {v : Int} (h : takeG bs k n = .ok v m) : 0 ≤ v ∧ v < 2 ^ k := by
  unfold takeG at h
  split at h
  · cases h
    have hb := valOf_bd ((bs.drop n).take k)
    refine ⟨hb.1, Int.lt_of_lt_of_le hb.2 (pow2_le ?_)⟩
    simp
    omega
  · cases h
/-- What is behind the lengths of the lengths' codes. -/
def codesC (bs : List Bool) (a b : Int) (xs : List Int) (n4 : Nat) : Got (List Int × List Int) :=
  if terrF (unordF xs) = 0 then
    (lengthsG bs (unordF xs) (257 + a.toNat + (1 + b.toNat)) [] n4).bind fun l n5 =>
      if l.getD 256 0 ≠ 0 ∧ terrF (l.take (257 + a.toNat)) = 0 ∧ terrF (l.drop (257 + a.toNat)) = 0 then .ok (l.take (257 + a.toNat), l.drop (257 + a.toNat)) n5 else .bad 2
  else .bad 2
theorem codesG_eq (bs : List Bool) (n0 : Nat) : codesG bs n0 = (takeG bs 5 n0).bind fun a n1 => (takeG bs 5 n1).bind fun b n2 => (takeG bs 4 n2).bind fun c n3 =>
    if 29 < a ∨ 29 < b then .bad 2 else (lensG bs (4 + c.toNat) [] n3).bind (codesC bs a b) := rfl

/-- Where codes that are told stand: the lengths' lengths, as they are laid, up to the k-th; or a fault. -/
def DSt (bs : List Bool) (G : Got (List Int × List Int)) (a b : Int) (c4 k : Nat) (xs X : List Int) (n : Nat) (e : Int) : Prop :=
  (e = 0 → xs.length = min k c4 ∧ X = unordF xs ∧ G = (lensG bs (c4 - k) xs n).bind (codesC bs a b)) ∧ (e ≠ 0 → ∀ v m, GotR G v m e)
theorem take_nbad {bs : List Bool} {k n : Nat} : ∀ e, takeG bs k n = .bad e → e ≠ 0 := by
  intro e h
  unfold takeG at h
  split at h <;> cases h
theorem bind_nbad {α β : Type} {g : Got α} {f : α → Nat → Got β} (h1 : ∀ e, g = .bad e → e ≠ 0) (h2 : ∀ v n e, f v n = .bad e → e ≠ 0) : ∀ e, g.bind f = .bad e → e ≠ 0 := by
  intro e h
  cases g with
  | ok v n => exact h2 v n e h
  | ran => cases h
  | bad e0 => cases h; exact h1 _ rfl
theorem lengths_nbad {bs : List Bool} {T : List Int} {N : Nat} : ∀ d l n, N - l.length ≤ d → ∀ e, lengthsG bs T N l n = .bad e → e ≠ 0 := by
  intro d
  induction d with
  | zero => intro l n hd e h; rw [lengthsG, dif_pos (by omega)] at h; cases h
  | succ d ih =>
    intro l n hd e h
    rw [lengthsG] at h
    split at h
    · cases h
    · next hN =>
      refine bind_nbad sym_bad (fun c n1 => ?_) e h
      intro e h
      split at h
      · exact ih _ _ (by simp; omega) e h
      · split at h
        · split at h
          · cases h; decide
          · refine bind_nbad take_nbad (fun v n2 => ?_) e h
            intro e h
            split at h
            · cases h; decide
            · exact ih _ _ (by simp; omega) e h
        · split at h
          · refine bind_nbad take_nbad (fun v n2 => ?_) e h
            intro e h
            split at h
            · cases h; decide
            · exact ih _ _ (by simp; omega) e h
          · refine bind_nbad take_nbad (fun v n2 => ?_) e h
            intro e h
            split at h
            · cases h; decide
            · exact ih _ _ (by simp; omega) e h
end Go.Proofs.Ytljejkdkjnbmhaa
/- inflate: tokens, plainly: as they are taken. No program in sight. -/
namespace Go.Proofs.Ytljejkdkjnbmhaa

theorem bind_congr {α β : Type} {g : Got α} {f f' : α → Nat → Got β} (h : ∀ v n, g = .ok v n → f v n = f' v n) : g.bind f = g.bind f' := by
  cases g with
  | ok v n => exact h v n rfl
  | ran => rfl
  | bad e => rfl
theorem bind_assoc {α β γ : Type} (g : Got α) (f : α → Nat → Got β) (k : β → Nat → Got γ) : (g.bind f).bind k = g.bind fun v n => (f v n).bind k := by
  cases g <;> rfl
theorem tokG_eq (bs : List Bool) (most : Int) (L D out : List Int) (n0 : Nat) : tokG bs most L D out n0 = (symG bs L n0).bind fun c n1 =>
    if c = 256 then .ok none n1
    else if c < 256 then (if most - out.length < 1 then .bad 12 else .ok (some (out ++ [c])) n1)
    else (lenG bs c n1).bind fun len n2 => (symG bs D n2).bind fun k n3 => (distG bs k n3).bind fun d n4 =>
      if (out.length : Int) < d then .bad 2 else if most - out.length < len then .bad 12 else .ok (some (copyN d.toNat out len.toNat)) n4 := by
  unfold tokG
  refine bind_congr fun c n1 _ => ?_
  split
  · rfl
  · split
    · rfl
    · unfold lenG
      split
      · rfl
      · rw [bind_assoc]
        refine bind_congr fun v n2 hv => ?_
        rw [Got.bind_ok]
        refine bind_congr fun k n3 _ => ?_
        unfold distG
        split
        · rfl
        · rw [bind_assoc]
          refine bind_congr fun u n4 hu => ?_
          rw [Got.bind_ok]
          have h1 := (take_bd hv).1
          have h2 := (take_bd hu).1
          rw [show ((lenT0 c.toNat).1 + v : Int).toNat = (lenT0 c.toNat).1 + v.toNat by omega, show ((distT0 k.toNat).1 + u : Int).toNat = (distT0 k.toNat).1 + u.toNat by omega]
theorem ite_nbad {α : Type} {c : Prop} [Decidable c] {a b : Got α} (h1 : ∀ e, a = .bad e → e ≠ 0) (h2 : ∀ e, b = .bad e → e ≠ 0) : ∀ e, (if c then a else b) = .bad e → e ≠ 0 := by
  intro e h
  split at h
  · exact h1 e h
  · exact h2 e h
theorem ok_nbad {α : Type} {v : α} {n : Nat} : ∀ e, (Got.ok v n) = .bad e → e ≠ 0 := fun e h => by cases h
theorem bad_nbad {α : Type} {e0 : Int} (h : e0 ≠ 0) : ∀ e, (Got.bad e0 : Got α) = .bad e → e ≠ 0 := fun e he => by cases he; exact h
theorem len_nbad {bs : List Bool} {c : Int} {n : Nat} : ∀ e, lenG bs c n = .bad e → e ≠ 0 := by
  unfold lenG
  exact ite_nbad (bad_nbad (by decide)) (bind_nbad take_nbad fun _ _ => ok_nbad)
theorem dist_nbad {bs : List Bool} {c : Int} {n : Nat} : ∀ e, distG bs c n = .bad e → e ≠ 0 := by
  unfold distG
  exact ite_nbad (bad_nbad (by decide)) (bind_nbad take_nbad fun _ _ => ok_nbad)
theorem tok_nbad {bs : List Bool} {most : Int} {L D out : List Int} {n : Nat} : ∀ e, tokG bs most L D out n = .bad e → e ≠ 0 := by
  rw [tokG_eq]
  exact bind_nbad sym_bad fun _ _ => ite_nbad ok_nbad (ite_nbad (ite_nbad (bad_nbad (by decide)) ok_nbad) (bind_nbad len_nbad fun _ _ => bind_nbad sym_bad fun _ _ => bind_nbad dist_nbad fun _ _ => ite_nbad (bad_nbad (by decide)) (ite_nbad (bad_nbad (by decide)) ok_nbad)))

/-- Unpacking comes to a fault. -/
def Faults (bs : List Bool) (most : Int) (st : Inf) (e : Int) : Prop := ∃ b, Steps bs most st b ∧ b.done = false ∧ ((stepG bs most b = .ran ∧ e = 2) ∨ stepG bs most b = .bad e)
/-- Where a block of tokens stands. -/
def TokSt (bs : List Bool) (most : Int) (t : List Int × List Int) (last : Bool) (st0 : Inf) (out : List Int) (n : Nat) (e : Int) : Prop :=
  (e = 0 → Steps bs most st0 ⟨n, out, some t, last⟩) ∧ (e ≠ 0 → Faults bs most st0 e)
/-- .. behind it. -/
def TokEnd (bs : List Bool) (most : Int) (last : Bool) (st0 : Inf) (out : List Int) (n : Nat) (e : Int) : Prop :=
  (e = 0 → Steps bs most st0 ⟨n, out, none, last⟩) ∧ (e ≠ 0 → Faults bs most st0 e)
end Go.Proofs.Ytljejkdkjnbmhaa
/- inflate: blocks, plainly: as they are taken. No program in sight. -/
namespace Go.Proofs.Ytljejkdkjnbmhaa

theorem steps_mono {bs : List Bool} {most : Int} {a b : Inf} (h : Steps bs most a b) : a.n ≤ bs.length → a.n ≤ b.n ∧ b.n ≤ bs.length := by
  induction h with
  | refl => intro h; exact ⟨Nat.le_refl _, h⟩
  | step hd hs _ ih =>
    intro h
    have h1 := step_goes h hs
    have h2 := ih h1.2
    omega
theorem stored_nbad {bs : List Bool} {most : Int} {out : List Int} {n : Nat} : ∀ e, storedG bs most out n = .bad e → e ≠ 0 := by
  unfold storedG
  exact bind_nbad take_nbad fun _ _ => bind_nbad take_nbad fun _ _ => ite_nbad (ite_nbad (ite_nbad (bad_nbad (by decide)) ok_nbad) (fun e h => by cases h)) (bad_nbad (by decide))
theorem lens_nbad {bs : List Bool} : ∀ k xs n e, lensG bs k xs n = .bad e → e ≠ 0 := by
  intro k
  induction k with
  | zero => intro xs n e h; cases h
  | succ k ih => intro xs n; exact bind_nbad take_nbad fun _ _ => ih _ _
theorem codes_nbad {bs : List Bool} {n : Nat} : ∀ e, codesG bs n = .bad e → e ≠ 0 := by
  rw [codesG_eq]
  refine bind_nbad take_nbad fun _ _ => bind_nbad take_nbad fun _ _ => bind_nbad take_nbad fun _ _ => ite_nbad (bad_nbad (by decide)) (bind_nbad (lens_nbad _ _ _) fun _ _ => ?_)
  unfold codesC
  exact ite_nbad (bind_nbad (lengths_nbad _ _ _ (Nat.le_refl _)) fun _ _ => ite_nbad ok_nbad (bad_nbad (by decide))) (bad_nbad (by decide))
/-- What unpacking answers. -/
def InfRes (bs : List Bool) (most : Int) (t : ByteArray) (u e : Int) : Prop := match inflF bs most with
  | .ok out n => t = strOfNums out ∧ u = nbytes n ∧ e = 0
  | .err e0 => t = ByteArray.empty ∧ u = 0 ∧ e = e0
  | .more => False
end Go.Proofs.Ytljejkdkjnbmhaa
/- stream: what the walks know plainly. No program in sight. (Written by tools/sts.py.) -/
namespace Go.Proofs.Ytljejkdkjnbmhaa
open Go.RowKit

/-- What a part of unpacking yields, said of a value, a place and a state: 0, -1 (the bits ran out), or a fault. -/
def GotS {α : Type} (g : Got α) (v : α) (n : Nat) (e : Int) : Prop := match g with
  | .ok v0 m => v = v0 ∧ n = m ∧ e = 0
  | .ran => e = -1
  | .bad e0 => e = e0
/-- A taking: its value, where the next bit stands, the state. -/
def ptV (s : ByteArray) (n : Nat) (k : Int) (e : Int) : Int := if e = 0 then tkV s n k else 0
def ptN (s : ByteArray) (n : Nat) (k : Int) (e : Int) : Nat := if e = 0 then tkN s n k else n
def ptE (s : ByteArray) (n : Nat) (k : Int) (e : Int) : Int := if tkOk s n k then e else if e = 0 then -1 else e
theorem ptE_ne {s : ByteArray} {n : Nat} {k e : Int} (h : e ≠ 0) : ptE s n k e = e := by
  unfold ptE
  rw [if_neg h]
  split <;> rfl
theorem ptV_ne {s : ByteArray} {n : Nat} {k e : Int} (h : e ≠ 0) : ptV s n k e = 0 := if_neg h
theorem ptN_ne {s : ByteArray} {n : Nat} {k e : Int} (h : e ≠ 0) : ptN s n k e = n := if_neg h
theorem ptV_zero {s : ByteArray} {n : Nat} {k : Int} : ptV s n k 0 = tkV s n k := if_pos rfl
theorem ptN_zero {s : ByteArray} {n : Nat} {k : Int} : ptN s n k 0 = tkN s n k := if_pos rfl
theorem ptN_le {s : ByteArray} {n k : Nat} {e : Int} (h : n ≤ 8 * s.size) : ptN s n k e ≤ 8 * s.size := by
  unfold ptN
  split
  · exact tkN_le h
  · exact h
theorem ptV_bd {s : ByteArray} {n k : Nat} {e : Int} (hk : k ≤ 16) (hn : n ≤ 8 * s.size) : 0 ≤ ptV s n k e ∧ ptV s n k e < 65536 := by
  unfold ptV
  split
  · exact ⟨(tk_got (s := s) (n := n) (k := k) (by omega) hn).2.2, tkV_lt hk⟩
  · omega
theorem tkS_got {s : ByteArray} {n k : Nat} (hk : k ≤ 62) (hn : n ≤ 8 * s.size) : GotS (takeG (textBits s) k n) (tkV s n k) (tkN s n k) (if tkOk s n k then 0 else -1) ∧ tkN s n k ≤ 8 * s.size ∧ 0 ≤ tkV s n k := by
  obtain ⟨h1, h2, h3⟩ := tk_got (s := s) (n := n) hk hn
  refine ⟨?_, h2, h3⟩
  unfold takeG at h1 ⊢
  split at h1
  · next hl =>
    rw [if_pos hl]
    obtain ⟨e1, e2, e3⟩ := h1
    refine ⟨e1, e2, ?_⟩
    by_cases ho : tkOk s n k
    · rw [if_pos ho]
    · rw [if_neg ho] at e3; omega
  · next hl =>
    rw [if_neg hl]
    have h1 : (if tkOk s n k then (0 : Int) else 2) = 2 := h1
    show (if tkOk s n k then (0 : Int) else -1) = -1
    by_cases ho : tkOk s n k
    · rw [if_pos ho] at h1; omega
    · rw [if_neg ho]
theorem pt_got {s : ByteArray} {n k : Nat} {e : Int} (hk : k ≤ 62) (hn : n ≤ 8 * s.size) (he : e = 0) : GotS (takeG (textBits s) k n) (ptV s n k e) (ptN s n k e) (ptE s n k e) := by
  subst he
  have h := (tkS_got (s := s) (n := n) hk hn).1
  rw [ptV_zero, ptN_zero]
  unfold ptE
  rw [if_pos rfl]
  exact h
theorem pt_zero {s : ByteArray} {n : Nat} {e : Int} (hn : n ≤ 8 * s.size) : ptV s n ((0 : Nat) : Int) e = 0 ∧ ptN s n ((0 : Nat) : Int) e = n ∧ ptE s n ((0 : Nat) : Int) e = e := by
  obtain ⟨h1, h2, -⟩ := tk_zero (s := s) (e := e) hn
  have h : tkOk s n ((0 : Nat) : Int) := by unfold tkOk; omega
  unfold ptV ptN ptE
  rw [h1, h2, if_pos h]
  split <;> exact ⟨rfl, rfl, rfl⟩
theorem dec_e' (l : List Int) : ∀ f m c b, (decN l f m c b).2.1 = 0 ∨ (decN l f m c b).2.1 = 2 := by
  intro f
  induction f with
  | zero => intro m c b; right; rfl
  | succ f ih =>
    intro m c b
    cases b with
    | nil => right; rfl
    | cons x t =>
      rw [decN]
      split
      · left; rfl
      · exact ih _ _ _
theorem sym_gotS {l : List Int} {bs : List Bool} {n : Nat} : GotS (symG bs l n) (decF l (bs.drop n)).1 (n + (decF l (bs.drop n)).2.2) (if (decF l (bs.drop n)).2.1 ≠ 0 ∧ (decF l (bs.drop n)).2.2 < 15 then -1 else (decF l (bs.drop n)).2.1) := by
  have h : (decF l (bs.drop n)).2.1 = 0 ∨ (decF l (bs.drop n)).2.1 = 2 := dec_e' l 15 0 0 _
  unfold symG
  rcases h with h | h
  · rw [if_pos h, if_neg (by simp [h])]
    exact ⟨rfl, rfl, h⟩
  · rw [if_neg (by omega)]
    by_cases h2 : (decF l (bs.drop n)).2.2 < 15
    · rw [if_pos h2, if_pos ⟨by omega, h2⟩]; rfl
    · rw [if_neg h2, if_neg (fun hh => h2 hh.2)]; exact h
theorem gotS_any {α : Type} {g : Got α} {v v' : α} {m m' : Nat} {e : Int} (h : GotS g v m e) (he : e ≠ 0) : GotS g v' m' e := by
  unfold GotS at *
  cases g with
  | ok v0 n0 => exact absurd h.2.2 he
  | ran => exact h
  | bad e0 => exact h
theorem gotS_bind {α β : Type} {g : Got α} {f : α → Nat → Got β} {v : α} {v' : β} {m m' : Nat} {e : Int} (h : GotS g v m e) (he : e ≠ 0) : GotS (g.bind f) v' m' e := by
  unfold GotS at h ⊢
  cases g with
  | ok v0 n0 => exact absurd h.2.2 he
  | ran => exact h
  | bad e0 => exact h
theorem gotS_ok {α : Type} {g : Got α} {v : α} {m : Nat} (h : GotS g v m 0) (hb : ∀ e, g = .bad e → e ≠ 0) : g = .ok v m := by
  unfold GotS at h
  cases g with
  | ok v0 n0 => rw [h.1, h.2.1]
  | ran => have h : (0 : Int) = -1 := h; omega
  | bad e0 => have h : (0 : Int) = e0 := h; exact absurd h.symm (hb _ rfl)
/-- Where lengths stand: as they go on, or a fault. -/
def LStS (bs : List Bool) (G : Got (List Int)) (T : List Int) (N : Nat) (l : List Int) (n : Nat) (e : Int) : Prop := (e = 0 → lengthsG bs T N l n = G) ∧ (e ≠ 0 → ∀ v m, GotS G v m e)
theorem lstS_start {bs : List Bool} {T : List Int} {N n : Nat} : LStS bs (lengthsG bs T N [] n) T N [] n 0 := ⟨fun _ => rfl, fun h => absurd rfl h⟩
theorem lstS_end {bs : List Bool} {G : Got (List Int)} {T l : List Int} {N n : Nat} {e : Int} (h : LStS bs G T N l n e) (hx : e ≠ 0 ∨ N ≤ l.length) : GotS G l n e := by
  by_cases he : e = 0
  · subst he
    rw [← h.1 rfl, lengthsG, dif_pos (hx.resolve_left (by simp))]
    exact ⟨rfl, rfl, rfl⟩
  · exact h.2 he _ _
/-- Behind a symbol. -/
theorem lstS_sym {bs : List Bool} {G : Got (List Int)} {T l : List Int} {N n n1 : Nat} {c e1 : Int} (h : LStS bs G T N l n 0) (hl : l.length < N) (hs : GotS (symG bs T n) c n1 e1) :
    (e1 ≠ 0 → LStS bs G T N l n1 e1) ∧ (e1 = 0 → (c < 16 → LStS bs G T N (l ++ [c]) n1 0) ∧ (c = 16 → l.length = 0 → ∀ v m, GotS G v m 2) ∧
      (c = 16 → l.length ≠ 0 → G = (takeG bs 2 n1).bind fun v n2 => if N < l.length + (3 + v.toNat) then .bad 2 else lengthsG bs T N (l ++ List.replicate (3 + v.toNat) (l.getD (l.length - 1) 0)) n2) ∧
      (c = 17 → G = (takeG bs 3 n1).bind fun v n2 => if N < l.length + (3 + v.toNat) then .bad 2 else lengthsG bs T N (l ++ List.replicate (3 + v.toNat) 0) n2) ∧
      (17 < c → G = (takeG bs 7 n1).bind fun v n2 => if N < l.length + (11 + v.toNat) then .bad 2 else lengthsG bs T N (l ++ List.replicate (11 + v.toNat) 0) n2)) := by
  have hG := h.1 rfl
  rw [lengthsG, dif_neg (by omega)] at hG
  refine ⟨fun he => ⟨fun h0 => absurd h0 he, fun _ v m => by rw [← hG]; exact gotS_bind hs he⟩, fun he => ?_⟩
  subst he
  rw [gotS_ok hs sym_bad, Got.bind_ok] at hG
  refine ⟨fun hc => ⟨fun _ => ?_, fun h0 => absurd rfl h0⟩, fun hc h0 v m => ?_, fun hc h0 => ?_, fun hc => ?_, fun hc => ?_⟩
  · rw [if_pos hc] at hG; exact hG
  · rw [if_neg (by omega), if_pos hc, if_pos h0] at hG; rw [← hG]; rfl
  · rw [if_neg (by omega), if_pos hc, if_neg h0] at hG; exact hG.symm
  · rw [if_neg (by omega), if_neg (by omega), if_pos hc] at hG; exact hG.symm
  · rw [if_neg (by omega), if_neg (by omega), if_neg (by omega)] at hG; exact hG.symm
/-- A number that is told, and bits more. -/
theorem addS_got {s : ByteArray} {n k b : Nat} {e : Int} (hk : k ≤ 16) (hn : n ≤ 8 * s.size) (he : e = 0) : GotS ((takeG (textBits s) k n).bind fun v m => .ok (b + v) m) (b + tkV s n k) (tkN s n k) (ptE s n k e) := by
  subst he
  have h := (tkS_got (s := s) (n := n) (k := k) (by omega) hn).1
  unfold takeG at h ⊢
  unfold ptE
  split at h
  · next hl =>
    obtain ⟨h1, h2, h3⟩ := h
    rw [if_pos hl, Got.bind_ok, h1, h2]
    refine ⟨rfl, rfl, ?_⟩
    split
    · rfl
    · next ho => rw [if_neg ho] at h3; omega
  · next hl =>
    have h3 : (if tkOk s n k then (0 : Int) else -1) = -1 := h
    rw [if_neg hl, Got.bind_ran]
    show _ = (-1 : Int)
    split
    · next ho => rw [if_pos ho] at h3; omega
    · rfl
/-- Behind a length again. -/
theorem lstS_again {s : ByteArray} {G : Got (List Int)} {T l : List Int} {N n1 j b V : Nat} {x : Int} (hj : j ≤ 16) (hn : n1 ≤ 8 * s.size) (hV : tkV s n1 j = V)
    (hG : G = (takeG (textBits s) j n1).bind fun v n2 => if N < l.length + (b + v.toNat) then .bad 2 else lengthsG (textBits s) T N (l ++ List.replicate (b + v.toNat) x) n2) :
    LStS (textBits s) G T N (agL N l (b + V) x) (tkN s n1 j) (agE N l (b + V) (ptE s n1 j 0)) := by
  have h := (tkS_got (s := s) (n := n1) (k := j) (by omega) hn).1
  unfold takeG at h hG
  unfold ptE
  split at h
  · next hl =>
    obtain ⟨h1, h2, h3⟩ := h
    rw [if_pos hl, Got.bind_ok, ← h1, ← h2, hV, Int.toNat_natCast] at hG
    have ho : tkOk s n1 j := by
      by_cases ho : tkOk s n1 j
      · exact ho
      · rw [if_neg ho] at h3; omega
    rw [if_pos ho]
    unfold agE agL
    split at hG
    · next hx =>
      rw [if_pos hx, if_pos hx, if_pos rfl]
      exact ⟨fun h => absurd h (by decide), fun _ v m => by rw [hG]; rfl⟩
    · next hx =>
      rw [if_neg hx, if_neg hx]
      exact ⟨fun _ => hG.symm, fun h => absurd rfl h⟩
  · next hl =>
    have h3 : (if tkOk s n1 j then (0 : Int) else -1) = -1 := h
    rw [if_neg hl, Got.bind_ran] at hG
    have ho : ¬ tkOk s n1 j := fun ho => by rw [if_pos ho] at h3; omega
    rw [if_neg ho, if_pos rfl]
    have e2 : agE N l (b + V) (-1) = -1 := by unfold agE; split <;> simp
    rw [e2]
    exact ⟨fun h => absurd h (by decide), fun _ v m => by rw [hG]; rfl⟩
/-- Where codes that are told stand: the lengths' lengths, as they are laid, up to the k-th; or a fault. -/
def DStS (bs : List Bool) (G : Got (List Int × List Int)) (a b : Int) (c4 k : Nat) (xs X : List Int) (n : Nat) (e : Int) : Prop :=
  (e = 0 → xs.length = min k c4 ∧ X = unordF xs ∧ G = (lensG bs (c4 - k) xs n).bind (codesC bs a b)) ∧ (e ≠ 0 → ∀ v m, GotS G v m e)
theorem dstS_start {bs : List Bool} {n0 n1 n2 n3 : Nat} {a b c e1 e2 e3 : Int} (h1 : GotS (takeG bs 5 n0) a n1 e1) (h2 : e1 ≠ 0 → e2 = e1) (h2' : e1 = 0 → GotS (takeG bs 5 n1) b n2 e2)
    (h3 : e2 ≠ 0 → e3 = e2) (h3' : e2 = 0 → GotS (takeG bs 4 n2) c n3 e3) :
    (e3 = 0 → (0 ≤ a ∧ a < 32) ∧ (0 ≤ b ∧ b < 32) ∧ (0 ≤ c ∧ c < 16)) ∧ ((29 < a ∨ 29 < b) → ∀ v m, GotS (codesG bs n0) v m (if e3 = 0 then 2 else e3)) ∧
    (¬ (29 < a ∨ 29 < b) → DStS bs (codesG bs n0) a b (4 + c.toNat) 0 [] (zerosF 19) n3 e3) := by
  rw [codesG_eq]
  by_cases he1 : e1 = 0
  case neg =>
    obtain rfl := h2 he1
    obtain rfl := h3 he1
    refine ⟨fun h => absurd h he1, fun _ v m => ?_, fun _ => ⟨fun h => absurd h he1, fun _ v m => gotS_bind h1 he1⟩⟩
    rw [if_neg he1]
    exact gotS_bind h1 he1
  subst he1
  have g1 := gotS_ok h1 take_nbad
  rw [g1, Got.bind_ok]
  have h2 := h2' rfl
  by_cases he2 : e2 = 0
  case neg =>
    obtain rfl := h3 he2
    refine ⟨fun h => absurd h he2, fun _ v m => ?_, fun _ => ⟨fun h => absurd h he2, fun _ v m => gotS_bind h2 he2⟩⟩
    rw [if_neg he2]
    exact gotS_bind h2 he2
  subst he2
  have g2 := gotS_ok h2 take_nbad
  rw [g2, Got.bind_ok]
  have h3 := h3' rfl
  by_cases he3 : e3 = 0
  case neg =>
    refine ⟨fun h => absurd h he3, fun _ v m => ?_, fun _ => ⟨fun h => absurd h he3, fun _ v m => gotS_bind h3 he3⟩⟩
    rw [if_neg he3]
    exact gotS_bind h3 he3
  subst he3
  have g3 := gotS_ok h3 take_nbad
  rw [g3, Got.bind_ok]
  refine ⟨fun _ => ⟨take_bd g1, take_bd g2, take_bd g3⟩, fun hx v m => ?_, fun hx => ⟨fun _ => ⟨by simp, unordF_nil.symm, ?_⟩, fun h => absurd rfl h⟩⟩
  · rw [if_pos rfl, if_pos hx]; rfl
  · rw [if_neg hx]; rfl
theorem dstS_bad {bs : List Bool} {G : Got (List Int × List Int)} {a b : Int} {c4 k k' n n' : Nat} {xs xs' X X' : List Int} {e : Int} (h : DStS bs G a b c4 k xs X n e) (he : e ≠ 0) : DStS bs G a b c4 k' xs' X' n' e :=
  ⟨fun h0 => absurd h0 he, h.2⟩
theorem dstS_take {bs : List Bool} {G : Got (List Int × List Int)} {a b : Int} {c4 k n n' : Nat} {xs X : List Int} {v e' : Int} (h : DStS bs G a b c4 k xs X n 0) (hk : k < c4) (hc : c4 ≤ 19) (ht : GotS (takeG bs 3 n) v n' e') : DStS bs G a b c4 (k + 1) (xs ++ [v]) (X.set (ordN k) v) n' e' := by
  obtain ⟨h1, h2, h3⟩ := h.1 rfl
  rw [show c4 - k = (c4 - (k + 1)) + 1 by omega, lensG] at h3
  have hxl : xs.length = k := by omega
  by_cases he : e' = 0
  · subst he
    rw [gotS_ok ht take_nbad, Got.bind_ok] at h3
    refine ⟨fun _ => ⟨by rw [List.length_append]; simp; omega, ?_, h3⟩, fun h => absurd rfl h⟩
    rw [unordF_snoc xs v (by omega), hxl, h2]
  · refine ⟨fun h0 => absurd h0 he, fun _ u m => ?_⟩
    rw [h3]
    exact gotS_bind (v := []) (m := 0) (gotS_bind ht he) he
/-- Behind the table of the lengths' codes. -/
theorem codesS_end {bs : List Bool} {G : Got (List Int × List Int)} {A B n n' : Nat} {xs l : List Int} {e' : Int} (hG : G = codesC bs A B xs n) :
    (terrF (unordF xs) ≠ 0 → ∀ v m, GotS G v m 2) ∧ (terrF (unordF xs) = 0 → GotS (lengthsG bs (unordF xs) (257 + A + (1 + B)) [] n) l n' e' →
      (e' ≠ 0 → ∀ v m, GotS G v m e') ∧ (e' = 0 → G = if l.getD 256 0 ≠ 0 ∧ terrF (l.take (257 + A)) = 0 ∧ terrF (l.drop (257 + A)) = 0 then .ok (l.take (257 + A), l.drop (257 + A)) n' else .bad 2)) := by
  unfold codesC at hG
  simp only [Int.toNat_natCast] at hG
  refine ⟨fun h v m => by rw [hG, if_neg h]; rfl, fun h hl => ?_⟩
  rw [if_pos h] at hG
  refine ⟨fun he v m => by rw [hG]; exact gotS_bind hl he, fun he => ?_⟩
  subst he
  rw [hG]
  have hok : lengthsG bs (unordF xs) (257 + A + (1 + B)) [] n = .ok l n' := by
    refine gotS_ok hl fun e hb => ?_
    exact lengths_nbad _ _ _ (Nat.le_refl _) e hb
  rw [hok, Got.bind_ok]
/-- Behind a symbol. -/
theorem tokS_sym {bs : List Bool} {most : Int} {L D out : List Int} {n n1 : Nat} {c e1 : Int} (hs : GotS (symG bs L n) c n1 e1) :
    (e1 ≠ 0 → GotS (tokG bs most L D out n) none 0 e1) ∧ (e1 = 0 → c = 256 → GotS (tokG bs most L D out n) none n1 0) ∧
    (e1 = 0 → c < 256 → (most - out.length < 1 → GotS (tokG bs most L D out n) none 0 12) ∧ (¬ most - out.length < 1 → GotS (tokG bs most L D out n) (some (out ++ [c])) n1 0)) ∧
    (e1 = 0 → 256 < c → tokG bs most L D out n = (lenG bs c n1).bind fun len n2 => (symG bs D n2).bind fun k n3 => (distG bs k n3).bind fun d n4 =>
      if (out.length : Int) < d then .bad 2 else if most - out.length < len then .bad 12 else .ok (some (copyN d.toNat out len.toNat)) n4) := by
  rw [tokG_eq]
  refine ⟨fun he => gotS_bind hs he, fun he hc => ?_, fun he hc => ⟨fun h => ?_, fun h => ?_⟩, fun he hc => ?_⟩
  all_goals
    subst he
    rw [gotS_ok hs sym_bad, Got.bind_ok]
  · rw [if_pos hc]; exact ⟨rfl, rfl, rfl⟩
  · rw [if_neg (by omega), if_pos hc, if_pos h]; rfl
  · rw [if_neg (by omega), if_pos hc, if_neg h]; exact ⟨rfl, rfl, rfl⟩
  · rw [if_neg (by omega), if_neg (by omega)]
/-- Behind a length and a distance. -/
theorem tokS_far {bs : List Bool} {most : Int} {D out : List Int} {G : Got (Option (List Int))} {n1 n2 n3 n4 : Nat} {c len k d e2 e3 e4 : Int}
    (hG : G = (lenG bs c n1).bind fun len n2 => (symG bs D n2).bind fun k n3 => (distG bs k n3).bind fun d n4 =>
      if (out.length : Int) < d then .bad 2 else if most - out.length < len then .bad 12 else .ok (some (copyN d.toNat out len.toNat)) n4)
    (h2 : GotS (lenG bs c n1) len n2 e2) (h3 : e2 ≠ 0 → e3 = e2) (h3' : e2 = 0 → GotS (symG bs D n2) k n3 e3) (h4 : e3 ≠ 0 → e4 = e3) (h4' : e3 = 0 → GotS (distG bs k n3) d n4 e4) :
    (e4 ≠ 0 → GotS G none 0 e4) ∧ (e4 = 0 → ((out.length : Int) < d → GotS G none 0 2) ∧ (¬ (out.length : Int) < d → (most - out.length < len → GotS G none 0 12) ∧ (¬ most - out.length < len → GotS G (some (copyN d.toNat out len.toNat)) n4 0))) := by
  rw [hG]
  clear hG
  by_cases he2 : e2 = 0
  case neg =>
    obtain rfl := h3 he2
    obtain rfl := h4 he2
    exact ⟨fun _ => gotS_bind h2 he2, fun h => absurd h he2⟩
  subst he2
  rw [gotS_ok h2 len_nbad, Got.bind_ok]
  have h3 := h3' rfl
  by_cases he3 : e3 = 0
  case neg =>
    obtain rfl := h4 he3
    exact ⟨fun _ => gotS_bind h3 he3, fun h => absurd h he3⟩
  subst he3
  rw [gotS_ok h3 sym_bad, Got.bind_ok]
  have h4 := h4' rfl
  by_cases he4 : e4 = 0
  case neg => exact ⟨fun _ => gotS_bind h4 he4, fun h => absurd h he4⟩
  subst he4
  rw [gotS_ok h4 dist_nbad, Got.bind_ok]
  refine ⟨fun h => absurd rfl h, fun _ => ⟨fun h => ?_, fun h => ⟨fun h' => ?_, fun h' => ?_⟩⟩⟩
  · rw [if_pos h]; rfl
  · rw [if_neg h, if_pos h']; rfl
  · rw [if_neg h, if_neg h']; exact ⟨rfl, rfl, rfl⟩
theorem takeS_got {bs : List Bool} {k n n' : Nat} {v e : Int} (h : GotS (takeG bs k n) v n' e) : (e = 0 ∧ takeG bs k n = .ok v n' ∧ n' = n + k ∧ n' ≤ bs.length) ∨ (e = -1 ∧ takeG bs k n = .ran) := by
  unfold takeG at h ⊢
  split at h
  · next h2 =>
    rw [if_pos h2]
    obtain ⟨rfl, rfl, rfl⟩ := h
    exact .inl ⟨rfl, rfl, rfl, h2⟩
  · next h2 =>
    rw [if_neg h2]
    exact .inr ⟨h, rfl⟩
/-- .. behind its first three bits. -/
theorem headS_takes {bs : List Bool} {most : Int} {out : List Int} {lst : Bool} {n n1 n2 : Nat} {a k e1 e2 : Int} (h1 : GotS (takeG bs 1 n) a n1 e1) (h2 : e1 ≠ 0 → e2 = e1) (h2' : e1 = 0 → GotS (takeG bs 2 n1) k n2 e2) :
    (e2 ≠ 0 → GotS (headG bs most ⟨n, out, none, lst⟩) Inf.init 0 e2) ∧ (e2 = 0 → (0 ≤ a ∧ a < 2) ∧ (0 ≤ k ∧ k < 4) ∧ n2 = n + 3 ∧
      headG bs most ⟨n, out, none, lst⟩ = if k = 0 then (storedG bs most out n2).bind fun o n3 => .ok ⟨n3, o, none, decide (a = 1)⟩ n3
        else if k = 1 then .ok ⟨n2, out, some fixTab, decide (a = 1)⟩ n2
        else if k = 2 then (codesG bs n2).bind fun t n3 => .ok ⟨n3, out, some t, decide (a = 1)⟩ n3
        else .bad 2) := by
  unfold headG
  simp only
  by_cases he1 : e1 = 0
  case neg =>
    obtain rfl := h2 he1
    exact ⟨fun _ => gotS_bind h1 he1, fun h => absurd h he1⟩
  subst he1
  have t1 := gotS_ok h1 take_nbad
  rw [t1, Got.bind_ok]
  have h2 := h2' rfl
  by_cases he2 : e2 = 0
  case neg => exact ⟨fun _ => gotS_bind h2 he2, fun h => absurd h he2⟩
  subst he2
  have t2 := gotS_ok h2 take_nbad
  rw [t2, Got.bind_ok]
  have b1 := take_bd t1
  have b2 := take_bd t2
  have g1 := takeS_got h1
  have g2 := takeS_got h2
  refine ⟨fun h => absurd rfl h, fun _ => ⟨b1, b2, by omega, rfl⟩⟩
theorem addP_got {s : ByteArray} {n k b : Nat} {e : Int} (hk : k ≤ 16) (hn : n ≤ 8 * s.size) (he : e = 0) : GotS ((takeG (textBits s) k n).bind fun v m => .ok (b + v) m) (b + ptV s n k e) (ptN s n k e) (ptE s n k e) := by
  have h := addS_got (b := b) hk hn he
  subst he
  rw [ptV_zero, ptN_zero]
  exact h

end Go.Proofs.Ytljejkdkjnbmhaa
/- huff: the walks of counts and left. -/
namespace Go.Proofs.Ytljejkdkjnbmhaa
open Go.RowKit


theorem results_cell2 {P : Program} {fn : Func} {p u : Tmp} {ty : TypeId} (h : fn.results = #[.cell p ty, .tmp u]) (tmps : Array Value) (w : World) (g : Nat) (t : TypeId) (cs : Array Value) (fr : Nat × Nat) (d : TypeDesc)
    (hp : tmps.getD p undef = .pointer (some ⟨g, 0, none⟩)) (hg : w.heap[g]? = some (.cells cs t fr))
    (hu : P.underlying ty = some d) (hd : (match d with | .struct _ | .array _ _ => true | _ => false) = true) (hi : (P.info? ty).map (·.size) = some cs.size) :
    (results fn tmps).run P w = .ok (.tuple #[.agg cs, tmps.getD u undef]) w := by
  rw [results_cell_tmp h, hp]
  simp [asAddr, run_loadVar_row w g t ty cs fr d hg hu hd hi, Result.andThen]
theorem arrInfo (cs : List Int) (h : cs.length = 16) : (Try.prog.info? 107).map (·.size) = some (nums cs).toArray.size := by
  rw [List.size_toArray, nums_length, h]
  kernel_rfl
section
variable {w0 w : World} {ps : List Piece} {ops : Array Oper} {rest : List Oper} {o : Oper} {a : Act} {Q : Exit → Act → World → Prop}
/-- A whole array of 16 is read. -/
theorem wpList_load16 (hgd : o.guard = none) (x : Operand) (ho : o.op = .load 107 x) {g : Nat} (hx : a.eval x = .pointer (some ⟨g, 0, none⟩)) {cs : List Int} (hl : cs.length = 16) (H : Own w0 w (blk g (.cells (nums cs).toArray 107) :: ps))
    (h : wpList Try.prog ops Q rest (a.put o.dst (.agg (nums cs).toArray)) w) : wpList Try.prog ops Q (o :: rest) a w :=
  wpList_load_row hgd 107 x ho g hx 107 (nums cs).toArray (0, 0) _ H.block.1 Try.underlying107 rfl (arrInfo cs hl) h
/-- A whole array of 16 is stored. -/
theorem wpList_store16 (hgd : o.guard = none) (x y : Operand) (ho : o.op = .store 107 x y) {g : Nat} (hx : a.eval x = .pointer (some ⟨g, 0, none⟩)) {cs ds : List Int} (hl : cs.length = 16) (hd : ds.length = 16)
    (H : Own w0 w (blk g (.cells (nums cs).toArray 107) :: ps)) (hv : a.eval y = .agg (nums ds).toArray)
    (h : ∀ w', Own w0 w' (blk g (.cells (nums ds).toArray 107) :: ps) → wpList Try.prog ops Q rest (a.put o.dst undef) w') : wpList Try.prog ops Q (o :: rest) a w :=
  wpList_store_agg hgd x y ho hx H hv (by have := arrInfo ds hd; rw [List.size_toArray] at this; exact this) (by rw [List.size_toArray, nums_length, nums_length, hl, hd]; omega) (nums_one ds) (store_whole _ _ (by rw [nums_length, nums_length, hl, hd])) h
end

set_option maxHeartbeats 3200000 in
theorem counts_any {w : World} {v : Value} {n : Nat} {F : List Int} (hr : Rd w 1 v n (nums F)) (hn : n ≤ 1000000) :
    Calls Try.prog 65 #[v] w (Ret fun r w' => (∃ cs : List Int, cs.length = 16 ∧ r = .tuple #[.agg (nums cs).toArray, .bool (mayF F)] ∧ (mayF F = true → cs = countsF F)) ∧ Own w w' []) := by
  have hl := Lib.hid (rd_len hr)
  obtain ⟨a, c, rfl, hc1, hc2⟩ := hr.shape
  have HR := Lib.hid hr
  obtain ⟨Z, hZ⟩ : ∃ Z, Hid (mayF F = Z) := ⟨_, rfl⟩
  rw [hZ.out]
  clear hr
  have H := (Own.start w).alloc2 (.cells (nums (zerosF 16)).toArray 107) (.cells (nums (zerosF 16)).toArray 107)
  rw [arr_zero] at H
  go_enter Try.func65, Try.ntmps65
  go_upto_region 2 with (fail)
  generalize (w.alloc _).alloc _ = wa at *
  rw [← arr_zero] at H
  obtain ⟨cb, hcb⟩ : ∃ g, w.heap.size + 1 = g := ⟨_, rfl⟩
  rw [hcb] at H ⊢
  generalize w.heap.size = rb at *
  clear hcb
  have hzl : (zerosF 16).length = 16 := by simp [zerosF]
  by_cases h320 : 320 < n
  · have e : Hid (Z = false) := Lib.hid (by
      rw [← hZ.out]; unfold mayF
      have := hl.out
      rw [decide_eq_false (by omega), Bool.false_and])
    have hI : (320 : Int) < (n : Int) := by omega
    go_wp2_with (first
      | (refine wpList_load16 rfl _ rfl rfl hzl H ?_)
      | (refine wpList_store16 rfl _ _ rfl rfl hzl hzl H.swap rfl ?_; clear H; intro w2 H))
    refine bodyPost_ret (results_cell2 rfl _ _ rb _ _ _ _ rfl H.block.1 Try.underlying107 rfl (arrInfo _ hzl)) rfl ?_
    exact ⟨_, rfl, ⟨_, hzl, by rw [e.out]; rfl, fun h => by rw [e.out] at h; cases h⟩, H.bare⟩
  · have hI : ¬ (320 : Int) < (n : Int) := by omega
    go_wp2_with fail
    go_loopw [13] (fun s13 wx => ∃ i : Nat, s13 = .int .i64 i ∧ i ≤ n ∧ Hid ((F.take i).all okLen = true) ∧ Own w wx [blk cb (.cells (nums (bumpF (zerosF 16) (F.take i))).toArray 107), blk rb (.cells (nums (zerosF 16)).toArray 107)]) (fun s13 _ => n - (intOf s13).toNat)
    case atStart => exact ⟨0, by go_num, by omega, Lib.hid rfl, by simpa [bumpF] using H⟩
    case round =>
      clear H
      obtain ⟨i, rfl, hi, hal, H⟩ := hrel
      have hbl : (bumpF (zerosF 16) (F.take i)).length = 16 := by rw [bumpF_length]; exact hzl
      by_cases hlt : i < n
      · have hI2 : (i : Int) < (n : Int) := by omega
        have hs := all_take_succ (p := okLen) (F := F) (i := i) (by have := hl.out; omega)
        have hbt : bumpF (zerosF 16) (F.take (i + 1)) = bump1 (bumpF (zerosF 16) (F.take i)) (F.getD i 0) := bump_take (getD_get (by have := hl.out; omega))
        have hbb := fun j => bump_bound (F.take i) (zerosF 16) j 0 (fun j => by rw [zeros_get]; omega)
        have hll : (F.take i).length ≤ 1000000 := by rw [List.length_take]; omega
        obtain ⟨b, o, rfl, c1⟩ := rd_at HR.out H hlt
        have hbad : okLen (F.getD i 0) = false → Hid (Z = false) := fun h => Lib.hid (by
          rw [← hZ.out]
          unfold mayF
          have : F.all okLen = false := by
            rw [List.all_eq_false]
            refine ⟨F.getD i 0, ?_, by rw [h]; simp⟩
            rw [List.getD_eq_getElem?_getD, List.getElem?_eq_getElem (by have := hl.out; omega)]
            exact List.getElem_mem _
          rw [this, Bool.and_false])
        rw [hal.out, Bool.true_and] at hs
        generalize F.getD i 0 = x at *
        generalize hcs : bumpF (zerosF 16) (F.take i) = cs at *
        by_cases h0 : x < 0
        · have e := hbad (by simp [okLen]; omega)
          clear hs hbad hbt hbb
          go_wp2_with (first
            | (refine wpList_load16 rfl _ rfl rfl hbl H ?_)
            | (refine wpList_store16 rfl _ _ rfl rfl hzl hbl H.swap rfl ?_; clear H; intro w2 H))
          refine bodyPost_ret (results_cell2 rfl _ _ rb _ _ _ _ rfl H.block.1 Try.underlying107 rfl (arrInfo _ hbl)) rfl ?_
          exact ⟨_, rfl, ⟨_, hbl, by rw [e.out]; rfl, fun h => by rw [e.out] at h; cases h⟩, H.bare⟩
        · by_cases h15 : 15 < x
          · have e := hbad (by simp [okLen]; omega)
            clear hs hbad hbt hbb
            go_wp2_with (first
              | (refine wpList_load16 rfl _ rfl rfl hbl H ?_)
              | (refine wpList_store16 rfl _ _ rfl rfl hzl hbl H.swap rfl ?_; clear H; intro w2 H))
            refine bodyPost_ret (results_cell2 rfl _ _ rb _ _ _ _ rfl H.block.1 Try.underlying107 rfl (arrInfo _ hbl)) rfl ?_
            exact ⟨_, rfl, ⟨_, hbl, by rw [e.out]; rfl, fun h => by rw [e.out] at h; cases h⟩, H.bare⟩
          · have e : Hid ((F.take (i + 1)).all okLen = true) := Lib.hid (by rw [hs]; simp [okLen]; omega)
            obtain ⟨m, rfl⟩ : ∃ m : Nat, x = m := ⟨x.toNat, by omega⟩
            have hb1 := hbb m
            have c0 := H.cells m
            rw [arr_get (by omega)] at c0
            have hst : (nums cs).toArray.setIfInBounds m (.int .i64 (cs.getD m 0 + 1)) = (nums (bump1 cs m)).toArray := arr_set _ _ _
            obtain ⟨y, hy⟩ : ∃ y, Hid (cs.getD m 0 = y) := ⟨_, rfl⟩
            rw [hy.out] at c0 hst hb1
            have hyw : IntKind.i64.wrap (y + 1) = y + 1 := IntWalk.i64_in _ ⟨by omega, by omega⟩
            have hmI : (m : Int) < 16 := by omega
            have HST := Lib.hid hst
            have HBT := Lib.hid hbt
            have hfit : m < (nums cs).toArray.size := by rw [List.size_toArray, nums_length]; omega
            clear hs hbad hbt hbb hst hb1
            go_wp2_with (refine wpList_store_int rfl _ _ rfl rfl H rfl (by kernel_rfl) hfit ?_; clear H c0; intro w2 H; rw [HST.out] at H)
            go_roundw
            case rel => exact ⟨i + 1, by go_num, by omega, e, by rw [HBT.out]; exact H⟩
            case measure => simp [intOf]; omega
      · obtain rfl : i = n := by omega
        have hI2 : ¬ (i : Int) < (i : Int) := by omega
        have e : Hid (Z = true) := Lib.hid (by
          rw [← hZ.out]; unfold mayF
          have h1 := hal.out
          rw [List.take_of_length_le (by have := hl.out; omega)] at h1
          rw [h1, Bool.and_true, hl.out]
          simp; omega)
        have hst : (nums (bumpF (zerosF 16) (F.take i))).toArray.setIfInBounds 0 (.int .i64 0) = (nums (countsF F)).toArray := by
          rw [arr_set, List.take_of_length_le (by have := hl.out; omega)]; rfl
        have hcl : (countsF F).length = 16 := by unfold countsF; rw [List.length_set, bumpF_length]; exact hzl
        have HST := Lib.hid hst
        have hfit : 0 < (nums (bumpF (zerosF 16) (F.take i))).toArray.size := by rw [List.size_toArray, nums_length]; omega
        clear hst
        go_wp2_with (first
          | (refine wpList_load16 rfl _ rfl rfl hcl H ?_)
          | (refine wpList_store_int rfl _ _ rfl rfl H rfl (by kernel_rfl) hfit ?_; clear H; intro w2 H; rw [HST.out] at H)
          | (refine wpList_store16 rfl _ _ rfl rfl hzl hcl H.swap rfl ?_; clear H; intro w2 H))
        refine bodyPost_ret (results_cell2 rfl _ _ rb _ _ _ _ rfl H.block.1 Try.underlying107 rfl (arrInfo _ hcl)) rfl ?_
        exact ⟨_, rfl, ⟨_, hcl, by rw [e.out]; rfl, fun _ => rfl⟩, H.bare⟩


set_option maxHeartbeats 1600000 in
theorem left_any {w : World} {cs : List Int} (hl : cs.length = 16) (hb : ∀ k, 0 ≤ cs.getD k 0 ∧ cs.getD k 0 ≤ 1000000) :
    Calls Try.prog 66 #[.agg (nums cs).toArray] w (Ret fun r w' => r = .int .i64 (leftF cs) ∧ Own w w' []) := by
  obtain ⟨Z, hZ⟩ : ∃ Z, Hid (leftF cs = Z) := ⟨_, rfl⟩
  rw [hZ.out]
  have HB := Lib.hid hb
  have H := (Own.start w).alloc (.cells (nums cs).toArray 107)
  clear hb
  go_enter Try.func66, Try.ntmps66
  go_upto_region 2 with (fail)
  generalize w.alloc (.cells (nums cs).toArray 107) = wa at *
  generalize w.heap.size = b at *
  go_wp2_with fail
  go_loopw [3, 8] (fun s3 s8 wx => ∃ (j : Nat) (n : Int), s8 = .int .i64 j ∧ j ≤ 15 ∧ s3 = .int .i64 n ∧ 0 ≤ n ∧ Hid (n ≤ ((2 ^ j : Nat) : Int)) ∧ Hid (leftL n (cs.drop (1 + j)) = Z) ∧ Own w wx [blk b (.cells (nums cs).toArray 107)]) (fun _ s8 _ => 15 - (intOf s8).toNat)
  case atStart => exact ⟨0, 1, by go_num, by omega, by go_num, by omega, Lib.hid (by simp), Lib.hid hZ.out, H⟩
  case round =>
    clear H
    obtain ⟨j, n, rfl, hj, rfl, hn, hn2, hlf, H⟩ := hrel
    have hn3 : n ≤ 32768 := by
      have h1 := hn2.out
      have h2 : (2 ^ j : Nat) ≤ 2 ^ 15 := Nat.pow_le_pow_right (by omega) hj
      omega
    by_cases hlt : j < 15
    · have hI : (j : Int) < 15 := by omega
      have c0 := H.cells (1 + j)
      rw [arr_get (by omega)] at c0
      have hk := HB.out (1 + j)
      have hd : cs.drop (1 + j) = cs.getD (1 + j) 0 :: cs.drop (1 + (j + 1)) := by
        rw [List.drop_eq_getElem_cons (by omega), List.getD_eq_getElem?_getD, List.getElem?_eq_getElem (by omega)]
        rfl
      have hlf2 := hlf.out
      rw [hd, leftL] at hlf2
      generalize cs.getD (1 + j) 0 = k at *
      have hw1 : IntKind.i64.wrap (2 * n) = 2 * n := IntWalk.i64_in _ ⟨by omega, by omega⟩
      have hw2 : IntKind.i64.wrap (2 * n - k) = 2 * n - k := IntWalk.i64_in _ ⟨by omega, by omega⟩
      by_cases hneg : 2 * n - k < 0
      · rw [if_pos hneg] at hlf2
        have e := Lib.hid hlf2.symm
        clear hlf2 hd hlf
        go_wp2_with fail
        go_ret
        exact ⟨_, rfl, by rw [e.out]; rfl, H.bare⟩
      · rw [if_neg hneg] at hlf2
        have e := Lib.hid hlf2
        have hp : Hid (2 * n - k ≤ ((2 ^ (j + 1) : Nat) : Int)) := Lib.hid (by
          have := hn2.out
          rw [Nat.pow_succ]
          omega)
        clear hlf2 hd hlf hn2
        go_wp2_with fail
        go_roundw
        case rel => exact ⟨j + 1, 2 * n - k, by go_num, by omega, by go_num, by omega, hp, e, H⟩
        case measure => simp [intOf]; omega
    · obtain rfl : j = 15 := by omega
      have e : Hid (n = Z) := Lib.hid (by
        have := hlf.out
        rw [List.drop_eq_nil_of_le (by omega)] at this
        exact this)
      clear hlf
      go_wp2_with fail
      go_ret
      exact ⟨_, rfl, by rw [← e.out]; rfl, H.bare⟩
end Go.Proofs.Ytljejkdkjnbmhaa
/- huff: the walk of Codes. -/
namespace Go.Proofs.Ytljejkdkjnbmhaa
open Go.RowKit


end Go.Proofs.Ytljejkdkjnbmhaa
/- huff: the walk of New. -/
namespace Go.Proofs.Ytljejkdkjnbmhaa
open Go.RowKit

/-- A table of lengths. -/
def Tbl (g : Nat) (l : List Int) : Piece := ex fun v => star (blk g (.cells ((nums (countsF l)).toArray.push v) 109)) (slc 3 1 v (tsymsF l).length (nums (natI (tsymsF l))))


theorem build16 {cs : List Int} (h : cs.length = 16) (z : Value) :
    List.foldl (fun (cs : Array Value) (x : Value × Nat) => cs.setIfInBounds x.snd x.fst) #[.int .i64 0, .int .i64 0, .int .i64 0, .int .i64 0, .int .i64 0, .int .i64 0, .int .i64 0, .int .i64 0, .int .i64 0, .int .i64 0, .int .i64 0, .int .i64 0, .int .i64 0, .int .i64 0, .int .i64 0, .int .i64 0, z] (nums cs).zipIdx = (nums cs).toArray.push z := by
  match cs, h with
  | [c0, c1, c2, c3, c4, c5, c6, c7, c8, c9, c10, c11, c12, c13, c14, c15], _ => simp [nums, List.zipIdx]
theorem cells17 (cs : List Int) (z : Value) (h : cs.length = 16) (i : Nat) (hi : i < 16) : ((nums cs).toArray.push z)[i]? = some (.int .i64 (cs.getD i 0)) := by
  rw [Array.getElem?_push, if_neg (by rw [List.size_toArray, nums_length]; omega)]
  exact arr_get (by omega)
theorem cell16 (cs : List Int) (z : Value) (h : cs.length = 16) : ((nums cs).toArray.push z)[16]? = some z := by
  rw [Array.getElem?_push, if_pos (by rw [List.size_toArray, nums_length]; omega)]
theorem set16 (cs : List Int) (y z : Value) (h : cs.length = 16) : ((nums cs).toArray.push y).setIfInBounds 16 z = (nums cs).toArray.push z := by
  match cs, h with
  | [c0, c1, c2, c3, c4, c5, c6, c7, c8, c9, c10, c11, c12, c13, c14, c15], _ => simp [nums]

/-- A table's cells. -/
def tcells (F : List Int) (v : Value) : Array Value := (nums (countsF F)).toArray.push v

/-! ### how many are in use -/

set_option maxRecDepth 100000 in
set_option maxHeartbeats 6400000 in
theorem hnew_any {w : World} {v : Value} {n : Nat} {F : List Int} (hr : Rd w 1 v n (nums F)) (hn : n ≤ 1000000) :
    Calls Try.prog 48 #[v] w (Ret fun r w' => ∃ pv, r = .tuple #[pv, .int .i64 (terrF F)] ∧ (terrF F ≠ 0 → pv = .pointer none ∧ Own w w' []) ∧ (terrF F = 0 → ∃ g, pv = .pointer (some ⟨g, 0, none⟩) ∧ Own w w' [Tbl g F])) := by
  have hl := Lib.hid (rd_len hr)
  obtain ⟨a, c, rfl, hc1, hc2⟩ := hr.shape
  have HR := Lib.hid hr
  obtain ⟨er, her⟩ : ∃ er, Hid (terrF F = er) := ⟨_, rfl⟩
  rw [her.out]
  obtain ⟨Z, hZ⟩ : ∃ Z, Hid (mayF F = Z) := ⟨_, rfl⟩
  have HC := Lib.hid (counts_any hr hn)
  rw [hZ.out] at HC
  clear hr
  have hzl : (zerosF 16).length = 16 := by simp [zerosF]
  go_enter Try.func48, Try.ntmps48
  go_wp2_with fail
  refine HC.out.mono ?_
  rintro e w1 ⟨_, rfl, ⟨cs, hcs, rfl, hcs2⟩, H1⟩
  have HCS := Lib.hid hcs2
  have H := H1.alloc (.cells (nums (zerosF 16)).toArray 107)
  rw [arr_zero] at H
  clear hcs2 HC H1
  go_upto_region 2 with (first
    | (generalize w1.alloc _ = wa at *; rw [← arr_zero] at H; generalize w1.heap.size = cb at *; refine wpList_store16 rfl _ _ rfl rfl hzl hcs H rfl ?_; clear H; intro w2 H))
  cases Z with
  | false =>
    have e1 : Hid (er = 1) := Lib.hid (by rw [← her.out]; unfold terrF; rw [hZ.out]; rfl)
    go_wp2_with fail
    go_ret2
    refine ⟨_, rfl, _, by rw [e1.out]; rfl, fun _ => ⟨rfl, H.bare⟩, fun h => by rw [e1.out] at h; cases h⟩
  | true =>
    have hm := mayF_len hZ.out
    have hcs2 := HCS.out rfl
    subst hcs2
    have HF := Lib.hid hm.2
    have hn3 : n ≤ 320 := by have := hm.1; have := hl.out; omega
    clear hm HCS
    have hsz : (nums (countsF F)).length = 16 := by rw [nums_length]; exact hcs
    have hsz2 : (nums (countsF F)).toArray.size = 16 := by rw [List.size_toArray]; exact hsz
    go_upto_region 5 with (refine wpList_load16 rfl _ rfl rfl hcs H ?_)
    rw [build16 hcs]
    replace H := (H.alloc (.cells ((nums (countsF F)).toArray.push (.slice none 0 0)) 109)).swap.nil 3 1
    generalize w2.alloc (.cells ((nums (countsF F)).toArray.push (.slice none 0 0)) 109) = w3 at *
    generalize w2.heap.size = g at *
    have H : Own w w3 (blk g (.cells ((nums (countsF F)).toArray.push (.slice none 0 0)) 109) :: slc 3 1 (.slice none 0 0) 0 [] :: blk cb (.cells (nums (countsF F)).toArray 107) :: []) := ((H.front 2 rfl))
    clear hsz hsz2
    go_wp2_with fail
    go_loopw [7] (fun s7 wx => ∃ (k q : Nat) (v7 : Value), s7 = .int .i64 ((k : Int) + 1) ∧ k ≤ 15 ∧ Hid (q = lenT (tsymsN F k)) ∧ q ≤ n ∧ Own w wx (blk g (.cells (tcells F v7) 109) :: slc 3 1 v7 q (nums (natI (tsymsN F k))) :: blk cb (.cells (nums (countsF F)).toArray 107) :: [])) (fun s7 _ => 16 - (intOf s7).toNat)
    case atStart => exact ⟨0, 0, .slice none 0 0, by go_num, by omega, Lib.hid rfl, by omega, H⟩
    case round =>
      clear H
      obtain ⟨k, q, v7, rfl, hk, hq, hqn, H⟩ := hrel
      by_cases hlt : k < 15
      · have hkI : (k : Int) + 1 ≤ 15 := by omega
        have hkw : IntKind.i64.wrap ((k : Int) + 1 + 1) = (k : Int) + 1 + 1 := IntWalk.i64_in _ ⟨by omega, by omega⟩
        go_wp2_with fail
        go_loopw [28] (fun s28 wx => ∃ (j q : Nat) (v7 : Value), s28 = .int .i64 j ∧ j ≤ n ∧ Hid (q = lenT (partT F k j)) ∧ q ≤ n + j ∧ Own w wx (blk g (.cells (tcells F v7) 109) :: slc 3 1 v7 q (nums (natI (partT F k j))) :: blk cb (.cells (nums (countsF F)).toArray 107) :: [])) (fun s28 _ => n - (intOf s28).toNat)
        case atStart => exact ⟨0, q, v7, by go_num, by omega, Lib.hid (by rw [hq.out]; simp [partT, symsN]), by omega, by simpa [partT, symsN] using H⟩
        case round =>
          clear H hq hqn
          obtain ⟨j, q, v7, rfl, hj, hq, hqn, H⟩ := hrel
          obtain ⟨a7, c7, rfl, hv1, hv2⟩ := (H.front 1 rfl).rd.shape
          by_cases hjn : j < n
          · have hjI : (j : Int) < (n : Int) := by omega
            obtain ⟨b, oo, rfl, c1⟩ := rd_at HR.out H hjn
            have hs := symsN_succ (l := F) (k + 1) j
            obtain ⟨x, hx⟩ : ∃ x, F.getD j 0 = x := ⟨_, rfl⟩
            rw [hx] at c1 hs
            clear hx
            by_cases hxk : x = (k : Int) + 1
            · subst hxk
              rw [if_pos (by omega)] at hs
              have hxe : ((k : Int) + 1 == (k : Int) + 1) = true := by simp
              have c0 := H.cells 16
              unfold tcells at c0
              rw [cell16 _ _ hcs] at c0
              have HS : Hid (partT F k (j + 1) = partT F k j ++ [j]) := Lib.hid (by unfold partT; rw [hs, List.append_assoc])
              generalize partT F k j = TS at *
              have hq2 : Hid (q + 1 = lenT (partT F k (j + 1))) := Lib.hid (by rw [HS.out, hq.out]; unfold lenT; rw [List.length_append]; rfl)
              have hfit : 16 < (tcells F (.slice a7 q c7)).size := by unfold tcells; rw [Array.size_push, List.size_toArray, nums_length, hcs]; omega
              clear hs
              go_wp2_with (first
                | (at_builtin; refine wpList_append_one rfl _ _ rfl Try.underlying30 intInfo rfl (by decide) rfl (H.front 1 rfl) (news := [.int .i64 j]) rfl rfl rfl (by simp [Value.oneCell']) (by omega) (by omega) ?_; clear H c1 c0; intro v' w' H; rw [natI_snoc] at H; replace H := H.swap; obtain ⟨a8, c8, rfl, -⟩ := H.swap.rd.shape)
                | (refine wpList_store_slice rfl _ _ rfl rfl H rfl (by kernel_rfl) hfit ?_; clear H; intro w5 H; unfold tcells at H; rw [set16 _ _ _ hcs] at H))
              go_roundw
              case rel => exact ⟨_, _, _, ⟨j + 1, by go_num, by omega, q + 1, hq2, by omega, _, by rw [HS.out]; exact H⟩, rfl, rfl, rfl⟩
              case measure => simp [intOf]; omega
            · rw [if_neg (by omega)] at hs
              have hxe : (x == (k : Int) + 1) = false := by simpa using hxk
              have HS : Hid (partT F k (j + 1) = partT F k j) := Lib.hid (by unfold partT; rw [hs])
              clear hs hxk
              go_wp2_with fail
              go_roundw
              case rel => exact ⟨j + 1, q, _, by go_num, by omega, Lib.hid (by rw [HS.out]; exact hq.out), by omega, by rw [HS.out]; exact H⟩
              case measure => simp [intOf]; omega
          · obtain rfl : j = n := by omega
            have hjI : ¬ (j : Int) < (j : Int) := by omega
            have HS : Hid (partT F k j = tsymsN F (k + 1)) := Lib.hid (by unfold partT; rw [tsymsN]; unfold symsL; rw [hl.out])
            rw [HS.out] at H
            have hle := tsyms_len_le (fun x hx => (HF.out x hx).1) (k + 1)
            rw [hl.out] at hle
            have hq2 : Hid (q = lenT (tsymsN F (k + 1))) := Lib.hid (by rw [← HS.out]; exact hq.out)
            have hqj : q ≤ j := by rw [hq2.out]; exact hle
            clear hle hq hqn
            go_wp2_with fail
            go_roundw
            case rel => exact ⟨k + 1, q, _, by go_num, by omega, hq2, hqj, H⟩
            case measure => simp [intOf]; omega
      · have hkI : ¬ (k : Int) + 1 ≤ 15 := by omega
        obtain ⟨a7, c7, rfl, hv1, hv2⟩ := (H.front 1 rfl).rd.shape
        have hts : tsymsN F k = tsymsF F := by rw [show k = 15 by omega]; rfl
        rw [hts] at H
        have hqu : q = (usedF F).length := by rw [hq.out, hts]; unfold lenT; exact tsyms_used HF.out
        have hfw := few_weight F HF.out
        have hcnt : (F.countP fun x => decide (0 < x)) = q := by
          rw [hqu]; unfold usedF; rw [used_count F _ (Nat.le_refl _), List.take_length]
        rw [hcnt] at hfw
        have her2 : er = if sumF wtF F = 32768 ∨ q = 0 ∨ q = 1 ∧ sumF wtF F = 16384 then 0 else 2 := by rw [← her.out]; unfold terrF; rw [hZ.out, if_pos rfl, hqu]
        have hlf := left_law HF.out
        have hc1 : (countsF F).getD 1 0 = (cntL F 1 : Nat) := by rw [counts_get HF.out 1 (by omega)]; unfold cntC; rw [if_neg (by omega)]
        have hcb : ∀ k, 0 ≤ (countsF F).getD k 0 ∧ (countsF F).getD k 0 ≤ 1000000 := by
          intro k
          rcases Nat.lt_or_ge k 16 with h | h
          · rw [counts_get HF.out k h]
            unfold cntC
            split
            · omega
            · have := cntL_le F k; have := hl.out; omega
          · rw [List.getD_eq_getElem?_getD, List.getElem?_eq_none (by rw [counts_length]; exact h)]; simp
        have HL := Lib.hid (fun w => left_any (w := w) hcs hcb)
        have c0 := H.cells 16
        have c1 := (H.front 2 rfl).cells 1
        unfold tcells at c0
        rw [cell16 _ _ hcs] at c0
        rw [arr_get (by omega), hc1] at c1
        obtain ⟨lf, hlfE⟩ : ∃ lf, Hid (leftF (countsF F) = lf) := ⟨_, rfl⟩
        rw [hlfE.out] at HL hlf
        have hlf2 : lf = if sumF wtF F ≤ 32768 then 32768 - sumF wtF F else -1 := hlf
        clear hcnt hlf hcb hts
        have hql : q = (tsymsF F).length := by rw [hqu]; exact (tsyms_used HF.out).symm
        have fin : ∀ (wz : World), Own w wz (blk g (.cells (tcells F (.slice a7 q c7)) 109) :: slc 3 1 (.slice a7 q c7) q (nums (natI (tsymsF F))) :: blk cb (.cells (nums (countsF F)).toArray 107) :: []) → Own w wz [Tbl g F] := fun wz h => by
          have h2 : Own w wz [blk g (.cells (tcells F (.slice a7 q c7)) 109), slc 3 1 (.slice a7 q c7) q (nums (natI (tsymsF F)))] := (((h.front 2 rfl).drop))
          refine Own.unex (f := fun v => Go.Proofs.Ytljejkdkjnbmhaa.star (blk g (.cells ((nums (countsF F)).toArray.push v) 109)) (slc 3 1 v (tsymsF F).length (nums (natI (tsymsF F))))) (.slice a7 q c7) (Own.unstar ?_)
          rw [← hql]
          exact h2
        have FIN := Lib.hid fin
        clear fin hql hqu
        obtain ⟨cn, hcn⟩ : ∃ cn, cntL F 1 = cn := ⟨_, rfl⟩
        rw [hcn] at c1 hfw
        generalize sumF wtF F = wt at *
        clear hcn hc1
        have cases6 : (q = 0 ∧ ¬ lf < 0 ∧ 0 < lf ∧ er = 0) ∨ (q = 1 ∧ cn = 1 ∧ ¬ lf < 0 ∧ 0 < lf ∧ er = 0) ∨ (q = 1 ∧ cn ≠ 1 ∧ ¬ lf < 0 ∧ 0 < lf ∧ er = 2) ∨ (2 ≤ q ∧ lf < 0 ∧ er = 2) ∨ (2 ≤ q ∧ lf = 0 ∧ er = 0) ∨ (2 ≤ q ∧ ¬ lf < 0 ∧ 0 < lf ∧ er = 2) := by
          rw [her2, hlf2]
          clear her2 hlf2
          rcases (by omega : q = 0 ∨ q = 1 ∨ 2 ≤ q) with h0 | h0 | h0
          · left
            have := hfw.1 h0
            rw [if_pos (by omega), if_pos (.inr (.inl h0))]
            omega
          · have h1 := hfw.2 h0
            rw [if_pos (by omega)]
            by_cases h2 : cn = 1
            · have := h1.2.2 h2
              right; left
              rw [if_pos (.inr (.inr ⟨h0, this⟩))]
              omega
            · right; right; left
              have h3 : wt ≠ 16384 := fun h => h2 (h1.2.1 h)
              rw [if_neg (by omega)]
              omega
          · right; right; right
            by_cases h2 : wt ≤ 32768
            · rw [if_pos h2]
              by_cases h3 : wt = 32768
              · right; left
                rw [if_pos (.inl h3)]
                omega
              · right; right
                rw [if_neg (by omega)]
                omega
            · left
              rw [if_neg h2, if_neg (by omega)]
              omega
        clear hfw her2 hlf2 hq hqn
        rcases cases6 with ⟨h1, h2, h3, h4⟩ | ⟨h1, h5, h2, h3, h4⟩ | ⟨h1, h5, h2, h3, h4⟩ | ⟨h1, h2, h4⟩ | ⟨h1, h2, h4⟩ | ⟨h1, h2, h3, h4⟩
        case' inl => subst h1
        case' inr.inl =>
          subst h1 h5
          have g1 : ((1 : Int) == 0) = false := rfl
        case' inr.inr.inl =>
          subst h1
          have g1 : ((1 : Int) == 0) = false := rfl
          have g2 : ((cn : Int) == 1) = false := by simp; omega
        case' inr.inr.inr.inl =>
          have g1 : ((q : Int) == 0) = false := by simp; omega
          have g2 : ((q : Int) == 1) = false := by simp; omega
        case' inr.inr.inr.inr.inl =>
          subst h2
          have g1 : ((q : Int) == 0) = false := by simp; omega
          have g2 : ((q : Int) == 1) = false := by simp; omega
        case' inr.inr.inr.inr.inr =>
          have g1 : ((q : Int) == 0) = false := by simp; omega
          have g2 : ((q : Int) == 1) = false := by simp; omega
        all_goals
          have e4 := Lib.hid h4
          clear h4
          go_wp2_with (refine wpList_load16 rfl _ rfl rfl hcs (H.front 2 rfl) ?_)
          refine (HL.out _).mono ?_
          rintro e w4 ⟨_, rfl, rfl, H1⟩
          have H := H.join H1
          clear H1 c0 c1
          go_wp2_with fail
          go_ret2
          first
            | exact ⟨_, rfl, _, by rw [e4.out]; rfl, fun h => absurd e4.out h, fun _ => ⟨g, rfl, FIN.out _ H⟩⟩
            | exact ⟨_, rfl, _, by rw [e4.out]; rfl, fun _ => ⟨rfl, H.bare⟩, fun h => by rw [e4.out] at h; cases h⟩
end Go.Proofs.Ytljejkdkjnbmhaa
/- Bits: Reader.Left, Take. -/
namespace Go.Proofs.Ytljejkdkjnbmhaa
open Go.RowKit

/-- A reader of a text, n bits taken. -/
def Rdr (g : Nat) (s : ByteArray) (n : Nat) : Piece := blk g (.cells #[.string s, .int .i64 n] 57)
set_option maxHeartbeats 400000 in
theorem rdleft_any {w0 w : World} {ps : List Piece} {g : Nat} {s : ByteArray} {n : Nat} (H : Own w0 w (Rdr g s n :: ps)) (hs : s.size ≤ 281474976710656) (hn : n ≤ 2251799813685248) :
    Calls Try.prog 42 #[.pointer (some ⟨g, 0, none⟩)] w fun e w' => e = .returned (.int .i64 (8 * s.size - n)) ∧ Own w0 w' (Rdr g s n :: ps) := by
  unfold Rdr at H ⊢
  obtain ⟨z, hz⟩ : ∃ z, Hid (s.size = z) := ⟨_, rfl⟩
  have hz2 := hz.out
  rw [hz2] at hs ⊢
  have hw : IntKind.i64.wrap (8 * (z : Int)) = 8 * z := IntWalk.i64_in _ ⟨by omega, by omega⟩
  have hw2 : IntKind.i64.wrap (8 * (z : Int) - n) = 8 * z - n := IntWalk.i64_in _ ⟨by omega, by omega⟩
  go_enter Try.func42, Try.ntmps42
  go_upto_region 3 with (fail)
  refine wp_region_calm (fun w1 => Own w0 w1 (blk g (.cells #[.string s, .int .i64 n] 57) :: ps)) 11 (by kernel_rfl) (by kernel_rfl) H.drew ?_
  simp only [List.take_succ_cons, List.take_zero, List.drop_succ_cons, List.drop_zero]
  repeat
    refine calm_value (v := ?_) (by decide) rfl (fun σ w1 hS => ?_) ?_; rotate_left
    · have c0 := hS.cells
      first | (go_simp; rfl) | rfl
    simp only [Act.put, List.setIfInBounds_toArray, List.set_cons_zero, List.set_cons_succ]
  refine calm_nil ?_
  intro wd HD
  go_wp2
  go_ret
  exact ⟨rfl, HD⟩
set_option maxHeartbeats 800000 in
theorem take_yes {w0 w : World} {ps : List Piece} {g : Nat} {s : ByteArray} {n : Nat} (m : Nat) (H : Own w0 w (Rdr g s n :: ps)) (hs : s.size ≤ 281474976710656) (hm : m ≤ 62) (hn : n + m ≤ 8 * s.size) :
    Calls Try.prog 24 #[.pointer (some ⟨g, 0, none⟩), .int .i64 m] w (Ret fun v w' => v = .tuple #[.int .i64 (valOf (((textBits s).drop n).take m)), .bool true] ∧ Own w0 w' (Rdr g s (n + m) :: ps)) := by
  obtain ⟨z, hz⟩ : ∃ z, Hid (s.size = z) := ⟨_, rfl⟩
  have hz2 := hz.out
  rw [hz2] at hs hn
  clear hz2
  obtain ⟨bs, hbs⟩ : ∃ bs, Hid ((textBits s).drop n = bs) := ⟨_, rfl⟩
  rw [hbs.out]
  have hbl : Hid (bs.length = 8 * z - n) := Lib.hid (by rw [← hbs.out, List.length_drop, textBits_length, hz.out])
  go_enter Try.func24, Try.ntmps24
  go_wp2_with fail
  refine (rdleft_any H (by rw [hz.out]; exact hs) (by omega)).mono ?_
  rintro e w1 ⟨rfl, H1⟩
  rw [hz.out]
  clear H
  have hle : (m : Int) ≤ 8 * (z : Int) - n := by omega
  go_wp2_with fail
  go_loopw [6, 26] (fun x i wx => ∃ k : Nat, ∃ u : Int, k ≤ m ∧ i = .int .i64 k ∧ x = .int .i64 u ∧ Hid (u = valOf (bs.take k)) ∧ Own w0 wx (Rdr g s n :: ps)) (fun _ i _ => m - (intOf i).toNat)
  case atStart => exact ⟨0, 0, Nat.zero_le _, rfl, rfl, Lib.hid rfl, H1⟩
  case round =>
    clear H1
    obtain ⟨k, u, hk, rfl, rfl, hu, H⟩ := hrel
    unfold Rdr at H
    have c0 := H.cells
    by_cases hlt : k < m
    · obtain ⟨p, hp⟩ : ∃ p, Hid (n + k = p) := ⟨_, rfl⟩
      obtain ⟨r, hr⟩ : ∃ r, Hid (r = p % 8) := ⟨_, Lib.hid rfl⟩
      obtain ⟨q, hq⟩ : ∃ q, Hid (q = p / 8) := ⟨_, Lib.hid rfl⟩
      have hp8 : p < 8 * z := by have := hp.out; omega
      have hpi : (n : Int) + (k : Int) = (p : Int) := by have := hp.out; omega
      have hrt : (p : Int).tmod 8 = (r : Int) := by have := hr.out; rw [Int.tmod_eq_emod_of_nonneg (by omega)]; omega
      have hqt : (p : Int).tdiv 8 = (q : Int) := by have := hq.out; rw [Int.tdiv_eq_ediv_of_nonneg (by omega)]; omega
      have hrt' : (p : Int) % 8 = (r : Int) := by have := hr.out; omega
      have hqt' : (p : Int) / 8 = (q : Int) := by have := hq.out; omega
      have hr8 : r < 8 := by have := hr.out; omega
      have hqs : q < s.size := by have := hz.out; have := hq.out; omega
      obtain ⟨b, hb⟩ : ∃ b, Hid (bs[k]? = some b) := ⟨bs[k]'(by have := hbl.out; omega), Lib.hid (List.getElem?_eq_getElem _)⟩
      have hbb : Hid (bitOf ((s[q].toNat : Nat) : Int) r = b) := Lib.hid (by
        have h1 := textBits_get s hqs hr8
        have h2 := hb.out
        rw [← hbs.out, List.getElem?_drop] at h2
        have e : n + k = 8 * q + r := by have := hp.out; have := hq.out; have := hr.out; omega
        rw [e, h1] at h2
        exact Option.some.inj h2)
      have hx8 := s[q].toNat_lt
      have hand : bits .and .u8 ((s[q].toNat : Int) / 2 ^ r) 1 = bi b := by
        have h0 : (0 : Int) ≤ (s[q].toNat : Int) / 2 ^ r := Int.ediv_nonneg (by omega) (Int.le_of_lt (Int.pow_pos (by decide)))
        have h1 : (s[q].toNat : Int) / 2 ^ r ≤ (s[q].toNat : Int) := Int.ediv_le_self _ (by omega)
        rw [u8_and1 h0 (by omega), ← hbb.out, bi_bitOf]
      have hbd := bi_bd b
      obtain ⟨c, hc⟩ : ∃ c, Hid (bi b = c) := ⟨_, rfl⟩
      rw [hc.out] at hand hbd
      obtain ⟨hc0, hc1⟩ := hbd
      have hub := valOf_bd (bs.take k)
      rw [← hu.out, List.length_take_of_le (by have := hbl.out; omega)] at hub
      obtain ⟨hu0, hu1⟩ := hub
      have hor := or64 (show k ≤ 61 by omega) hu0 hu1 hc0 hc1
      go_wp2
      go_round
      case rel =>
        have hw : wrap64 (c * 2 ^ k) = c * 2 ^ k := by
          have hp : (2 : Int) ^ k ≤ 2 ^ 61 := pow2_le (by omega)
          have hp0 : (0 : Int) < 2 ^ k := Int.pow_pos (by decide)
          have h61 : (2 : Int) ^ 61 = 2305843009213693952 := by decide
          have : c = 0 ∨ c = 1 := by omega
          rcases this with rfl | rfl
          · exact IntWalk.wrap64_in _ ⟨by omega, by omega⟩
          · exact IntWalk.wrap64_in _ ⟨by omega, by omega⟩
        exact ⟨k + 1, u + 2 ^ k * c, by omega, by go_num, val_int (by rw [hw]; exact hor), Lib.hid (by
          rw [List.take_add_one, hb.out, Option.toList_some, valOf_snoc, ← hu.out, hc.out, List.length_take_of_le (by have := hbl.out; omega)]), H⟩
      case measure => simp [intOf]; omega
    · obtain rfl : k = m := by omega
      have hnk : Hid ((n : Int) + k = ((n + k : Nat) : Int)) := Lib.hid (by omega)
      go_wp2_with (refine wpList_store_int rfl _ _ rfl rfl H rfl (by kernel_rfl) (by simp) ?_; clear H c0; intro w3 H)
      go_ret2
      refine ⟨.tuple #[.int .i64 u, .bool true], rfl, by rw [hu.out], ?_⟩
      rw [hnk.out] at H
      simpa [Rdr] using H
set_option maxHeartbeats 800000 in
theorem take_no {w0 w : World} {ps : List Piece} {g : Nat} {s : ByteArray} {n : Nat} (m : Int) (hm1 : -9223372036854775808 ≤ m) (hm2 : m ≤ 9223372036854775807) (H : Own w0 w (Rdr g s n :: ps)) (hs : s.size ≤ 281474976710656) (hn : n ≤ 2251799813685248) (hno : m < 0 ∨ 62 < m ∨ 8 * (s.size : Int) - n < m) :
    Calls Try.prog 24 #[.pointer (some ⟨g, 0, none⟩), .int .i64 m] w (Ret fun v w' => v = .tuple #[.int .i64 0, .bool false] ∧ Own w0 w' (Rdr g s n :: ps)) := by
  obtain ⟨z, hz⟩ : ∃ z, Hid (s.size = z) := ⟨_, rfl⟩
  rw [hz.out] at hno
  go_enter Try.func24, Try.ntmps24
  by_cases h1 : m < 0
  · go_wp2
    go_ret2
    exact ⟨_, rfl, rfl, H⟩
  by_cases h2 : 62 < m
  · go_wp2
    go_ret2
    exact ⟨_, rfl, rfl, H⟩
  have h3 : 8 * (z : Int) - n < m := by omega
  clear hno
  go_wp2_with fail
  refine (rdleft_any H hs hn).mono ?_
  rintro e w1 ⟨rfl, H1⟩
  rw [hz.out]
  go_wp2
  go_ret2
  exact ⟨_, rfl, rfl, H1⟩
theorem take_any {w0 w : World} {ps : List Piece} {g : Nat} {s : ByteArray} {n : Nat} (m : Int) (hm : -9223372036854775808 ≤ m ∧ m ≤ 9223372036854775807) (H : Own w0 w (Rdr g s n :: ps)) (hs : s.size ≤ 1000000) (hn : n ≤ 8 * s.size) :
    Calls Try.prog 24 #[.pointer (some ⟨g, 0, none⟩), .int .i64 m] w (Ret fun v w' => v = .tuple #[.int .i64 (tkV s n m), .bool (decide (tkOk s n m))] ∧ Own w0 w' (Rdr g s (tkN s n m) :: ps)) := by
  by_cases h : tkOk s n m
  · have h' := h
    unfold tkOk at h'
    obtain ⟨k, rfl⟩ : ∃ k : Nat, m = k := ⟨m.toNat, by omega⟩
    have := take_yes k H (by omega) (by omega) (by omega)
    simpa [tkV, tkN, h] using this
  · have h' := h
    unfold tkOk at h'
    have := take_no m hm.1 hm.2 H (by omega) (by omega) (by omega)
    simpa [tkV, tkN, h] using this
end Go.Proofs.Ytljejkdkjnbmhaa
/- huff: laws for the walk of Decode. -/
namespace Go.Proofs.Ytljejkdkjnbmhaa
open Go.RowKit


set_option maxRecDepth 100000 in
set_option maxHeartbeats 6400000 in
/-- A symbol is taken. -/
theorem decode_any {w0 w : World} {ps : List Piece} {g rg n : Nat} {l : List Int} {s : ByteArray} (hall : ∀ x ∈ l, 0 ≤ x ∧ x ≤ 15) (hw : sumF wtF l ≤ 2 ^ 15) (hlen : l.length ≤ 1000000) (hs : s.size ≤ 281474976710656) (hn : n ≤ 8 * s.size)
    (H : Own w0 w (Rdr rg s n :: Tbl g l :: ps)) :
    Calls Try.prog 43 #[.pointer (some ⟨g, 0, none⟩), .pointer (some ⟨rg, 0, none⟩)] w (Ret fun r w' => r = .tuple #[.int .i64 (decF l ((textBits s).drop n)).1, .int .i64 (decF l ((textBits s).drop n)).2.1] ∧ Own w0 w' (Rdr rg s (n + (decF l ((textBits s).drop n)).2.2) :: Tbl g l :: ps)) := by
  obtain ⟨v, H⟩ := H.swap.ex
  have H := H.star
  obtain ⟨ta, tc, rfl, ht1, ht2⟩ := H.swap.rd.shape
  obtain ⟨bs, hbs⟩ : ∃ bs, Hid ((textBits s).drop n = bs) := ⟨_, rfl⟩
  rw [hbs.out]
  have hbl : Hid (bs.length = 8 * s.size - n) := Lib.hid (by rw [← hbs.out, List.length_drop, textBits_length])
  obtain ⟨x1, x2, x3, hD⟩ : ∃ x1 x2 x3, Hid (decF l bs = (x1, x2, x3)) := ⟨_, _, _, rfl⟩
  rw [hD.out]
  obtain ⟨q, hq⟩ : ∃ q, Hid ((tsymsF l).length = q) := ⟨_, rfl⟩
  rw [hq.out] at H
  have hcl := counts_length l
  have HALL := Lib.hid hall
  have HW := Lib.hid hw
  clear hall hw
  have H : Own w0 w (Rdr rg s n :: blk g (.cells (tcells l (.slice ta q tc)) 109) :: slc 3 1 (.slice ta q tc) q (nums (natI (tsymsF l))) :: ps) := (H.front 2 rfl)
  have fin : ∀ (wz : World) (m : Nat), Own w0 wz (Rdr rg s m :: blk g (.cells (tcells l (.slice ta q tc)) 109) :: slc 3 1 (.slice ta q tc) q (nums (natI (tsymsF l))) :: ps) → Own w0 wz (Rdr rg s m :: Tbl g l :: ps) := fun wz m h => by
    have h2 := (h.front 2 rfl).front 2 rfl
    refine (Own.unex (f := fun v => Go.Proofs.Ytljejkdkjnbmhaa.star (blk g (.cells ((nums (countsF l)).toArray.push v) 109)) (slc 3 1 v (tsymsF l).length (nums (natI (tsymsF l))))) (.slice ta q tc) (Own.unstar ?_)).swap
    rw [hq.out]
    exact h2
  have FIN := Lib.hid fin
  clear fin
  go_enter Try.func43, Try.ntmps43
  go_wp2_with fail
  go_loopw [6, 7, 8, 20] (fun s6 s7 s8 s20 wx => ∃ (i : Nat) (c : Int) (y : Int × Int × Nat), s20 = .int .i64 i ∧ s6 = .int .i64 (2 * c) ∧ s7 = .int .i64 (lowF l (i + 1)) ∧ s8 = .int .i64 (atF l (i + 1)) ∧ i ≤ 15 ∧ i ≤ bs.length ∧ 0 ≤ c ∧ Hid (c < 2 ^ i) ∧ Hid (lowF l i + cntC l i ≤ c) ∧ Hid (decN l (15 - i) i c (bs.drop i) = y) ∧ Hid (y.1 = x1 ∧ y.2.1 = x2 ∧ i + y.2.2 = x3) ∧ Own w0 wx (Rdr rg s (n + i) :: blk g (.cells (tcells l (.slice ta q tc)) 109) :: slc 3 1 (.slice ta q tc) q (nums (natI (tsymsF l))) :: ps)) (fun _ _ _ s20 _ => 15 - (intOf s20).toNat)
  case atStart =>
    exact ⟨0, 0, _, by go_num, by go_num, by rw [lowF_succ, lowF_zero]; rfl, rfl, by omega, by omega, by omega, Lib.hid (by decide), Lib.hid (by rw [lowF_zero]; simp [cntC]), Lib.hid rfl, Lib.hid (by have := hD.out; unfold decF at this; simp [this]), H⟩
  case round =>
    clear H
    obtain ⟨i, c, y, rfl, rfl, rfl, rfl, hi, hib, hc0, hc2, hcl2, hy, hyx, H⟩ := hrel
    have hlow := low_le HALL.out HW.out (i + 1) (by omega)
    have hat := atF_le HALL.out (i + 1)
    by_cases hlt : i < 15
    · have hiI : (i : Int) < 15 := by omega
      have hci : c ≤ 32768 := by
        obtain ⟨p, hp, h2, h3⟩ := pow_pos_nat i (by omega)
        have := hc2.out
        rw [hp] at this
        omega
      have c0 := (H.front 1 rfl).cells (1 + i)
      unfold tcells at c0
      rw [cells17 _ _ hcl _ (by omega), counts_get HALL.out _ (by omega), show cntC l (1 + i) = cntC l (i + 1) by rw [Nat.add_comm]] at c0
      have hlow2 := low_le HALL.out HW.out (i + 1 + 1) (by omega)
      have hls := lowF_succ l (i + 1)
      have hats : atF l (i + 1 + 1) = atF l (i + 1) + cntC l (i + 1) := rfl
      have hat2 := atF_le HALL.out (i + 1 + 1)
      have hcn0 := cntC_nonneg l (i + 1)
      have hlow1 : lowF l (i + 1) ≤ 2 * c := by have := hcl2.out; rw [lowF_succ]; omega
      by_cases hbit : i < bs.length
      · obtain ⟨b, hb⟩ : ∃ b, bs[i]? = some b := ⟨bs[i], List.getElem?_eq_getElem hbit⟩
        have ht := take_yes (m := 1) H hs (by omega) (by have := hbl.out; omega)
        rw [show ((1 : Nat) : Int) = 1 from rfl] at ht
        have hval : ((textBits s).drop (n + i)).take 1 = [b] := by
          rw [← List.drop_drop, hbs.out]
          have : bs.drop i = b :: bs.drop (i + 1) := by
            obtain ⟨h1, h2⟩ := List.getElem?_eq_some_iff.1 hb
            rw [List.drop_eq_getElem_cons h1, h2]
          rw [this]; rfl
        rw [hval] at ht
        have hvb : valOf [b] = bi b := by simp [valOf]
        rw [hvb] at ht
        have hy2 := hy.out
        have hdrop : bs.drop i = b :: bs.drop (i + 1) := by
          obtain ⟨h1, h2⟩ := List.getElem?_eq_some_iff.1 hb
          rw [List.drop_eq_getElem_cons h1, h2]
        rw [hdrop, show 15 - i = (15 - (i + 1)) + 1 by omega, decN] at hy2
        have hbd := bi_bd b
        have hor := or_low hc0 (by omega) hbd.1 hbd.2
        have hc2' : Hid (2 * c + bi b < 2 ^ (i + 1)) := Lib.hid (by have := hc2.out; rw [Int.pow_succ]; omega)
        have hsl := symsL_length (l := l) (i + 1)
        have hcnt : cntC l (i + 1) = cntL l (i + 1) := by unfold cntC; rw [if_neg (by omega)]
        have hget := fun j h => tsymsN_get (l := l) (n := i) (m := 15) (i := j) hlt h
        have htl := tsymsN_length (l := l) i
        have HT := Lib.hid ht
        have HGET := Lib.hid hget
        obtain ⟨d, hd⟩ : ∃ d, bi b = d := ⟨_, rfl⟩
        rw [hd] at hy2 hor hc2' hbd HT
        clear ht hget hdrop hvb hval hb hd hy
        by_cases hh : 2 * c + d - lowF l (i + 1) < cntC l (i + 1)
        · obtain ⟨j, hj⟩ : ∃ j : Nat, 2 * c + d - lowF l (i + 1) = j := ⟨(2 * c + d - lowF l (i + 1)).toNat, by omega⟩
          have hjl : j < (symsL l (i + 1)).length := by omega
          rw [hj, Int.toNat_natCast, List.getElem?_eq_getElem hjl] at hy2
          simp only at hy2
          obtain ⟨sy, hsy⟩ : ∃ sy, (symsL l (i + 1))[j] = sy := ⟨_, rfl⟩
          rw [hsy] at hy2
          subst hy2
          obtain ⟨hx1, hx2, hx3⟩ := hyx.out
          simp only at hx1 hx2 hx3
          subst hx1 hx2 hx3
          have htq : (nums (natI (tsymsF l)))[(tsymsN l i).length + j]? = some (.int .i64 (sy : Int)) := by
            have h1 := HGET.out j (by omega)
            rw [List.getElem?_eq_getElem hjl, hsy] at h1
            refine nums_get ?_
            unfold natI
            rw [List.getElem?_map]
            show Option.map _ ((tsymsN l 15)[_]?) = _
            rw [h1]
            rfl
          have hidx : (tsymsN l i).length + j < q := by
            have h1 := HGET.out j (by omega)
            rw [List.getElem?_eq_getElem hjl] at h1
            have := (List.getElem?_eq_some_iff.1 h1).1
            rw [← hq.out]; exact this
          obtain ⟨ix, hix⟩ : ∃ ix, (tsymsN l i).length + j = ix := ⟨_, rfl⟩
          rw [hix] at htq hidx
          have hixI : atF l (i + 1) + (2 * c + d) - lowF l (i + 1) = (ix : Int) := by omega
          have hw1 : IntKind.i64.wrap (2 * c + d - lowF l (i + 1)) = 2 * c + d - lowF l (i + 1) := IntWalk.i64_in _ ⟨by omega, by omega⟩
          have hw2 : IntKind.i64.wrap (atF l (i + 1) + (2 * c + d)) = atF l (i + 1) + (2 * c + d) := IntWalk.i64_in _ ⟨by omega, by omega⟩
          have hw3 : IntKind.i64.wrap (atF l (i + 1) + (2 * c + d) - lowF l (i + 1)) = (ix : Int) := by rw [hixI]; exact IntWalk.i64_in _ ⟨by omega, by omega⟩
          have HTQ := Lib.hid htq
          clear htq hixI hix htl hjl hsy hj hcnt hsl hls hats hat2 hlow2 hcl2 hyx HGET
          generalize lowF l (i + 1) = lo at *
          generalize atF l (i + 1) = at_ at *
          generalize cntC l (i + 1) = k at *
          have hixI2 : (ix : Int) < (q : Int) := by omega
          go_wp2_with fail
          refine HT.out.mono ?_
          rintro e w2 ⟨_, rfl, rfl, H2⟩
          clear H c0
          have c1 := (H2.front 1 rfl).cells 16
          unfold tcells at c1
          rw [cell16 _ _ hcl] at c1
          obtain ⟨gb, go, _, he, -⟩ := (H2.front 2 rfl).rd.some (by rw [nums_length]; unfold natI; rw [List.length_map, hq.out]; omega)
          cases he
          have c2 := (H2.front 2 rfl).rd.cell HTQ.out
          go_wp2_with fail
          go_ret2
          exact ⟨_, rfl, rfl, FIN.out _ _ (by rw [← Nat.add_assoc]; exact H2)⟩
        · have hnone : (symsL l (i + 1))[(2 * c + d - lowF l (i + 1)).toNat]? = none := List.getElem?_eq_none (by omega)
          rw [hnone] at hy2
          simp only at hy2
          subst hy2
          have hyx2 : Hid ((decN l (15 - (i + 1)) (i + 1) (2 * c + d) (bs.drop (i + 1))).1 = x1 ∧ (decN l (15 - (i + 1)) (i + 1) (2 * c + d) (bs.drop (i + 1))).2.1 = x2 ∧ i + 1 + (decN l (15 - (i + 1)) (i + 1) (2 * c + d) (bs.drop (i + 1))).2.2 = x3) := Lib.hid (by
            obtain ⟨h1, h2, h3⟩ := hyx.out
            exact ⟨h1, h2, by rw [← h3]; simp only; omega⟩)
          have hcl3 : Hid (lowF l (i + 1) + cntC l (i + 1) ≤ 2 * c + d) := Lib.hid (by omega)
          have hcd : 0 ≤ 2 * c + d ∧ 2 * c + d ≤ 65537 := ⟨by omega, by omega⟩
          clear hnone hyx HGET htl hsl hcnt hcl2
          generalize hlo2 : lowF l (i + 1 + 1) = lo2 at *
          generalize hat2' : atF l (i + 1 + 1) = at2 at *
          generalize hlo : lowF l (i + 1) = lo at *
          generalize atF l (i + 1) = at_ at *
          generalize hkk : cntC l (i + 1) = k at *
          have HLO2 := Lib.hid hlo2
          have HAT2 := Lib.hid hat2'
          have HLO := Lib.hid hlo
          have HKK := Lib.hid hkk
          clear hlo2 hat2' hlo hkk
          have hw1 : IntKind.i64.wrap (2 * c + d - lo) = 2 * c + d - lo := IntWalk.i64_in _ ⟨by omega, by omega⟩
          have hw2 : IntKind.i64.wrap (at_ + k) = at2 := by rw [hats]; exact IntWalk.i64_in _ ⟨by omega, by omega⟩
          have hw3 : IntKind.i64.wrap (lo + k) = lo + k := IntWalk.i64_in _ ⟨by omega, by omega⟩
          have hw4 : IntKind.i64.wrap ((lo + k) * 2) = lo2 := by rw [hls, Int.mul_comm]; exact IntWalk.i64_in _ ⟨by omega, by omega⟩
          have hw5 : IntKind.i64.wrap ((2 * c + d) * 2) = 2 * (2 * c + d) := by rw [Int.mul_comm]; exact IntWalk.i64_in _ ⟨by omega, by omega⟩
          have hii : i + 1 ≤ bs.length := hbit
          obtain ⟨hcd0, hcd1⟩ := hcd
          clear hls hats hat hat2 hlow hlow2 hcd1 hbit
          go_wp2_with fail
          refine HT.out.mono ?_
          rintro e w2 ⟨_, rfl, rfl, H2⟩
          clear H c0
          go_wp2_with fail
          go_roundw
          case rel => exact ⟨i + 1, 2 * c + d, _, by go_num, by go_num, by rw [HLO2.out], by rw [HAT2.out], by omega, hii, hcd0, hc2', Lib.hid (by rw [HLO.out, HKK.out]; exact hcl3.out), Lib.hid rfl, hyx2, by rw [← Nat.add_assoc]; exact H2⟩
          case measure => simp [intOf]; omega
      · have hib2 : i = bs.length := by omega
        have hy2 := hy.out
        rw [List.drop_eq_nil_of_le (by omega), show 15 - i = (15 - (i + 1)) + 1 by omega, decN] at hy2
        subst hy2
        obtain ⟨hx1, hx2, hx3⟩ := hyx.out
        simp only at hx1 hx2 hx3
        rw [Nat.add_zero] at hx3
        subst hx1 hx2 hx3
        have ht := take_no 1 (by omega) (by omega) H hs (by have := hbl.out; omega) (.inr (.inr (by have := hbl.out; omega)))
        have HT := Lib.hid ht
        clear ht hls hats hat hat2 hlow hlow2 hib2
        go_wp2_with fail
        refine HT.out.mono ?_
        rintro e w2 ⟨_, rfl, rfl, H2⟩
        clear H c0
        go_wp2_with fail
        go_ret2
        exact ⟨_, rfl, rfl, FIN.out _ _ H2⟩
    · have hi15 : i = 15 := by omega
      have hiI : ¬ (i : Int) < 15 := by omega
      have hy2 := hy.out
      rw [show 15 - i = 0 by omega, decN] at hy2
      subst hy2
      obtain ⟨hx1, hx2, hx3⟩ := hyx.out
      simp only at hx1 hx2 hx3
      rw [Nat.add_zero] at hx3
      subst hx1 hx2 hx3
      clear hat hlow hi15
      go_wp2_with fail
      go_ret2
      exact ⟨_, rfl, rfl, FIN.out _ _ H⟩
end Go.Proofs.Ytljejkdkjnbmhaa
/- Bits: Reader.Used. -/
namespace Go.Proofs.Ytljejkdkjnbmhaa
open Go.RowKit

set_option maxHeartbeats 400000 in
theorem used_any {w0 w : World} {ps : List Piece} {g : Nat} {s : ByteArray} {n : Nat} (H : Own w0 w (Rdr g s n :: ps)) :
    Calls Try.prog 17 #[.pointer (some ⟨g, 0, none⟩)] w fun e w' => e = .returned (.int .i64 n) ∧ w' = w := by
  unfold Rdr at H
  have c0 := H.cells
  go_enter Try.func17, Try.ntmps17
  go_wp2
  go_ret
  exact ⟨rfl, rfl⟩
end Go.Proofs.Ytljejkdkjnbmhaa
/- Bits: Reader.Align. -/
namespace Go.Proofs.Ytljejkdkjnbmhaa
open Go.RowKit

set_option maxHeartbeats 400000 in
theorem rdalign_any {w0 w : World} {ps : List Piece} {g : Nat} {s : ByteArray} {n : Nat} (H : Own w0 w (Rdr g s n :: ps)) (hn : n ≤ 2251799813685248) :
    Calls Try.prog 44 #[.pointer (some ⟨g, 0, none⟩)] w (Ret fun _ w' => Own w0 w' (Rdr g s (8 * nbytes n) :: ps)) := by
  unfold Rdr at H
  have c0 := H.cells
  obtain ⟨q, hq⟩ : ∃ q, Hid (q = nbytes n) := ⟨_, Lib.hid rfl⟩
  have hqt : ((n : Int) + 7).tdiv 8 = (q : Int) := by have := hq.out; unfold nbytes at this; rw [Int.tdiv_eq_ediv_of_nonneg (by omega)]; omega
  have hqt' : ((n : Int) + 7) / 8 = (q : Int) := by have := hq.out; unfold nbytes at this; omega
  have hqb : q ≤ 2251799813685248 := by have := hq.out; unfold nbytes at this; omega
  have h8 : Hid ((q : Int) * 8 = ((8 * q : Nat) : Int)) := Lib.hid (by omega)
  go_enter Try.func44, Try.ntmps44
  go_wp2_with (refine wpList_store_int rfl _ _ rfl rfl H rfl (by kernel_rfl) (by simp) ?_; clear H c0; intro w3 H)
  go_end0
  refine ⟨_, rfl, ?_⟩
  rw [← hq.out]
  rw [h8.out] at H
  simpa [Rdr] using H
end Go.Proofs.Ytljejkdkjnbmhaa
/- Bits: Reader.Text. -/
namespace Go.Proofs.Ytljejkdkjnbmhaa
open Go.RowKit

set_option maxHeartbeats 400000 in
theorem rdtext_yes {w0 w : World} {ps : List Piece} {g : Nat} {s : ByteArray} {n : Nat} (m : Nat) (H : Own w0 w (Rdr g s n :: ps)) (hs : s.size ≤ 281474976710656) (hm : nbytes n + m ≤ s.size) :
    Calls Try.prog 45 #[.pointer (some ⟨g, 0, none⟩), .int .i64 m] w (Ret fun v w' => v = .tuple #[.string (s.extract (nbytes n) (nbytes n + m)), .bool true] ∧ Own w0 w' (Rdr g s (8 * (nbytes n + m)) :: ps)) := by
  obtain ⟨z, hz⟩ : ∃ z, Hid (s.size = z) := ⟨_, rfl⟩
  obtain ⟨q, hq⟩ : ∃ q, Hid (q = nbytes n) := ⟨_, Lib.hid rfl⟩
  rw [← hq.out] at hm ⊢
  have hmz : q + m ≤ z := by rw [← hz.out]; exact hm
  have hz3 : z ≤ 281474976710656 := by rw [← hz.out]; exact hs
  have hqt : ((n : Int) + 7).tdiv 8 = (q : Int) := by have := hq.out; unfold nbytes at this; rw [Int.tdiv_eq_ediv_of_nonneg (by omega)]; omega
  have hqt' : ((n : Int) + 7) / 8 = (q : Int) := by have := hq.out; unfold nbytes at this; omega
  have hn : n ≤ 2251799813685248 := by have := hq.out; unfold nbytes at this; omega
  have hle : (m : Int) ≤ (s.size : Int) - (q : Int) := by have := hz.out; omega
  have h8 : Hid (8 * ((q : Int) + (m : Int)) = ((8 * (q + m) : Nat) : Int)) := Lib.hid (by omega)
  unfold Rdr at H
  have c0 := H.cells
  go_enter Try.func45, Try.ntmps45
  go_wp2_with (refine wpList_store_int rfl _ _ rfl rfl H rfl (by kernel_rfl) (by simp) ?_; clear H c0; intro w3 H; have c0 := H.cells)
  go_ret2
  refine ⟨_, rfl, rfl, ?_⟩
  rw [h8.out] at H
  simpa [Rdr] using H
set_option maxHeartbeats 400000 in
theorem rdtext_no {w0 w : World} {ps : List Piece} {g : Nat} {s : ByteArray} {n : Nat} (m : Int) (hm1 : -9223372036854775808 ≤ m) (hm2 : m ≤ 9223372036854775807) (H : Own w0 w (Rdr g s n :: ps)) (hs : s.size ≤ 281474976710656) (hn : n ≤ 2251799813685248) (hno : m < 0 ∨ (s.size : Int) - nbytes n < m) :
    Calls Try.prog 45 #[.pointer (some ⟨g, 0, none⟩), .int .i64 m] w (Ret fun v w' => v = .tuple #[.string ByteArray.empty, .bool false] ∧ Own w0 w' (Rdr g s n :: ps)) := by
  obtain ⟨q, hq⟩ : ∃ q, Hid (q = nbytes n) := ⟨_, Lib.hid rfl⟩
  rw [← hq.out] at hno
  have hqt : ((n : Int) + 7).tdiv 8 = (q : Int) := by have := hq.out; unfold nbytes at this; rw [Int.tdiv_eq_ediv_of_nonneg (by omega)]; omega
  have hqt' : ((n : Int) + 7) / 8 = (q : Int) := by have := hq.out; unfold nbytes at this; omega
  have hqb : q ≤ 281474976710656 := by have := hq.out; unfold nbytes at this; omega
  have H0 := H
  unfold Rdr at H
  have c0 := H.cells
  go_enter Try.func45, Try.ntmps45
  by_cases h1 : m < 0
  · go_wp2
    go_ret2
    exact ⟨_, rfl, rfl, H0⟩
  have h2 : (s.size : Int) - (q : Int) < m := by omega
  clear hno
  go_wp2
  go_ret2
  exact ⟨_, rfl, rfl, H0⟩
theorem rdtext_any {w0 w : World} {ps : List Piece} {g : Nat} {s : ByteArray} {n : Nat} (m : Int) (hm : -9223372036854775808 ≤ m ∧ m ≤ 9223372036854775807) (H : Own w0 w (Rdr g s n :: ps)) (hs : s.size ≤ 1000000) (hn : n ≤ 8 * s.size) :
    Calls Try.prog 45 #[.pointer (some ⟨g, 0, none⟩), .int .i64 m] w (Ret fun v w' => v = .tuple #[.string (txV s n m), .bool (decide (txOk s n m))] ∧ Own w0 w' (Rdr g s (txN s n m) :: ps)) := by
  by_cases h : txOk s n m
  · have h' := h
    unfold txOk at h'
    obtain ⟨k, rfl⟩ : ∃ k : Nat, m = k := ⟨m.toNat, by omega⟩
    have := rdtext_yes k H (by omega) (by omega)
    simpa [txV, txN, h] using this
  · have h' := h
    unfold txOk at h'
    have := rdtext_no m hm.1 hm.2 H (by omega) (by omega) (by omega)
    simpa [txV, txN, h] using this
end Go.Proofs.Ytljejkdkjnbmhaa
/- stream: a part; the walks of ok, fail, take, sym. -/
namespace Go.Proofs.Ytljejkdkjnbmhaa
open Go.RowKit

def shF (e : Int) : Bool := decide (e = -1)
def erF (e : Int) : Int := if e = -1 then 0 else e
/-- A part: of a text, n bits taken; its state. -/
def Prt (g rg : Nat) (s : ByteArray) (n : Nat) (e : Int) : Piece :=
  star (blk g (.cells #[.pointer (some ⟨rg, 0, none⟩), .bool (shF e), .int .i64 (erF e)] 45)) (Rdr rg s n)
theorem Own.prt {w0 w : World} {ps : List Piece} {g rg : Nat} {s : ByteArray} {n : Nat} {e : Int} (H : Own w0 w (Prt g rg s n e :: ps)) :
    Own w0 w (blk g (.cells #[.pointer (some ⟨rg, 0, none⟩), .bool (shF e), .int .i64 (erF e)] 45) :: Rdr rg s n :: ps) := H.star
theorem Own.unprt {w0 w : World} {ps : List Piece} {g rg : Nat} {s : ByteArray} {n : Nat} {e : Int} (H : Own w0 w (blk g (.cells #[.pointer (some ⟨rg, 0, none⟩), .bool (shF e), .int .i64 (erF e)] 45) :: Rdr rg s n :: ps)) : Own w0 w (Prt g rg s n e :: ps) := Own.unstar H
theorem se_zero : shF 0 = false ∧ erF 0 = 0 := ⟨rfl, rfl⟩
theorem se_ran : shF (-1) = true ∧ erF (-1) = 0 := ⟨rfl, rfl⟩
theorem se_bad {e : Int} (h : e ≠ -1) : shF e = false ∧ erF e = e := ⟨decide_eq_false h, if_neg h⟩

set_option maxHeartbeats 800000 in
theorem ptok_any {w0 w : World} {ps : List Piece} {g rg n : Nat} {s : ByteArray} {e : Int} (H : Own w0 w (Prt g rg s n e :: ps)) :
    Calls Try.prog 23 #[.pointer (some ⟨g, 0, none⟩)] w fun r w' => r = .returned (.bool (decide (e = 0))) ∧ w' = w := by
  have H1 := H.prt
  by_cases h1 : e = -1
  · subst h1
    rw [se_ran.1, se_ran.2] at H1
    have c0 := H1.cells
    go_enter Try.func23, Try.ntmps23
    go_wp2
    go_ret
    exact ⟨rfl, rfl⟩
  · rw [(se_bad h1).1, (se_bad h1).2] at H1
    have c0 := H1.cells
    obtain ⟨b, hb⟩ : ∃ b, Hid (decide (e = 0) = b) := ⟨_, rfl⟩
    have hb2 : (e == 0) = b := by rw [← hb.out]; rfl
    rw [hb.out]
    go_enter Try.func23, Try.ntmps23
    go_wp2
    go_ret
    exact ⟨rfl, rfl⟩
set_option maxHeartbeats 800000 in
theorem ptfail_any {w0 w : World} {ps : List Piece} {g rg n : Nat} {s : ByteArray} {e : Int} (H : Own w0 w (Prt g rg s n e :: ps)) :
    Calls Try.prog 28 #[.pointer (some ⟨g, 0, none⟩)] w (Ret fun _ w' => Own w0 w' (Prt g rg s n (if e = 0 then 2 else e) :: ps)) := by
  have HK := Lib.hid (ptok_any H)
  by_cases h : e = 0
  · subst h
    rw [if_pos rfl]
    rw [decide_eq_true rfl] at HK
    have H1 := H.prt
    rw [se_zero.1, se_zero.2] at H1
    go_enter Try.func28, Try.ntmps28
    go_wp2_with fail
    refine HK.out.mono ?_
    rintro e1 w1 ⟨rfl, rfl⟩
    have c0 := H1.cells
    go_wp2_with (refine wpList_store_int rfl _ _ rfl rfl H1 rfl (by kernel_rfl) (by simp) ?_; clear H1 c0; intro w3 H1)
    go_end0
    exact ⟨_, rfl, Own.unprt (e := 2) H1⟩
  · rw [if_neg h]
    rw [decide_eq_false h] at HK
    go_enter Try.func28, Try.ntmps28
    go_wp2_with fail
    refine HK.out.mono ?_
    rintro e1 w1 ⟨rfl, rfl⟩
    go_wp2
    go_end0
    exact ⟨_, rfl, H⟩
set_option maxHeartbeats 800000 in
theorem pttake_any {w0 w : World} {ps : List Piece} {g rg n : Nat} {s : ByteArray} {e : Int} (k : Nat) (hk : k ≤ 16) (H : Own w0 w (Prt g rg s n e :: ps)) (hs : s.size ≤ 1000000) (hn : n ≤ 8 * s.size) :
    Calls Try.prog 14 #[.pointer (some ⟨g, 0, none⟩), .int .i64 k] w (Ret fun r w' => r = .int .i64 (ptV s n k e) ∧ Own w0 w' (Prt g rg s (ptN s n k e) (ptE s n k e) :: ps)) := by
  have HK := Lib.hid (ptok_any H)
  by_cases he : e = 0
  · subst he
    rw [ptV_zero, ptN_zero]
    unfold ptE
    rw [decide_eq_true rfl] at HK
    have H1 := H.prt
    rw [se_zero.1, se_zero.2] at H1
    have HT := Lib.hid (take_any (g := rg) k (by omega) H1.swap hs hn)
    generalize tkV s n k = V at *
    generalize tkN s n k = M at *
    obtain ⟨b, hb⟩ : ∃ b, Hid (decide (tkOk s n (k : Int)) = b) := ⟨_, rfl⟩
    rw [hb.out] at HT
    obtain ⟨E, hE⟩ : ∃ E : Int, Hid ((if tkOk s n (k : Int) then (0 : Int) else if (0 : Int) = 0 then -1 else 0) = E) := ⟨_, rfl⟩
    have hEb : Hid (b = true ∧ E = 0 ∨ b = false ∧ E = -1) := Lib.hid (by
      rw [← hb.out, ← hE.out]
      by_cases h : tkOk s n (k : Int)
      · left; rw [if_pos h, decide_eq_true h]; exact ⟨rfl, rfl⟩
      · right; rw [if_neg h, if_pos rfl, decide_eq_false h]; exact ⟨rfl, rfl⟩)
    rw [hE.out]
    go_enter Try.func14, Try.ntmps14
    go_wp2_with fail
    refine HK.out.mono ?_
    rintro e1 w1 ⟨rfl, rfl⟩
    have c0 := H1.cells
    go_wp2_with fail
    refine HT.out.mono ?_
    rintro e1 w2 ⟨_, rfl, rfl, H2⟩
    have H3 := H2.swap
    clear H1 H2 HT HK c0 H
    have c0 := H3.cells
    go_wp2_with (refine wpList_store_bool rfl _ _ rfl rfl H3 rfl (by kernel_rfl) (by simp) ?_; clear H3 c0; intro w3 H3)
    go_ret
    refine ⟨_, rfl, rfl, Own.unprt ?_⟩
    rcases hEb.out with ⟨rfl, rfl⟩ | ⟨rfl, rfl⟩
    · exact H3
    · exact H3
  · rw [ptV_ne he, ptN_ne he, ptE_ne he]
    rw [decide_eq_false he] at HK
    go_enter Try.func14, Try.ntmps14
    go_wp2_with fail
    refine HK.out.mono ?_
    rintro e1 w1 ⟨rfl, rfl⟩
    go_wp2
    go_ret
    exact ⟨_, rfl, rfl, H⟩
/-- What a symbol's taking yields. -/
def PSymP (w0 : World) (ps : List Piece) (g rg : Nat) (s : ByteArray) (n : Nat) (l : List Int) (e : Int) (r : Value) (w' : World) : Prop :=
  ∃ x n' e', r = .int .i64 x ∧ 0 ≤ x ∧ x ≤ 1000000 ∧ n' ≤ 8 * s.size ∧ (e ≠ 0 → e' = e ∧ x = 0) ∧ (e = 0 → GotS (symG (textBits s) l n) x n' e') ∧ Own w0 w' (Prt g rg s n' e' :: ps)
set_option maxRecDepth 100000 in
set_option maxHeartbeats 1600000 in
theorem ptsym_any {w0 w : World} {ps : List Piece} {g rg t n : Nat} {l : List Int} {s : ByteArray} {e : Int} (hT : TabOk l) (hs : s.size ≤ 1000000) (hn : n ≤ 8 * s.size) (H : Own w0 w (Prt g rg s n e :: Tbl t l :: ps)) :
    Calls Try.prog 25 #[.pointer (some ⟨g, 0, none⟩), .pointer (some ⟨t, 0, none⟩)] w (Ret fun r w' => PSymP w0 (Tbl t l :: ps) g rg s n l e r w') := by
  have HK := Lib.hid (ptok_any H)
  by_cases he : e = 0
  case neg =>
    rw [decide_eq_false he] at HK
    go_enter Try.func25, Try.ntmps25
    go_wp2_with fail
    refine HK.out.mono ?_
    rintro e1 w1 ⟨rfl, rfl⟩
    go_wp2
    go_ret
    exact ⟨_, rfl, show PSymP _ _ _ _ _ _ _ _ _ _ from ⟨0, n, e, rfl, by omega, by omega, hn, fun _ => ⟨rfl, rfl⟩, fun h => absurd h he, H⟩⟩
  subst he
  rw [decide_eq_true rfl] at HK
  have H1 := H.prt
  rw [se_zero.1, se_zero.2] at H1
  have HD := Lib.hid (decode_any (g := t) (rg := rg) hT.all hT.wt hT.len (by omega) hn ((H1.front 2 rfl).front 2 rfl))
  have hg := Lib.hid (sym_gotS (l := l) (bs := textBits s) (n := n))
  have hu := decN_used (l := l) 15 0 0 ((textBits s).drop n)
  have hxb : 0 ≤ (decF l ((textBits s).drop n)).1 ∧ (decF l ((textBits s).drop n)).1 ≤ 1000000 := by
    have h1 := dec_bd l 15 0 0 ((textBits s).drop n)
    have h2 := hT.len
    unfold decF
    omega
  have hN : n + (decF l ((textBits s).drop n)).2.2 ≤ 8 * s.size := by
    rw [List.length_drop, textBits_length] at hu
    unfold decF
    omega
  have hx2 : (decF l ((textBits s).drop n)).2.1 = 0 ∨ (decF l ((textBits s).drop n)).2.1 = 2 := dec_e' l 15 0 0 _
  have HU := Lib.hid (used_any H1.swap)
  clear hu
  obtain ⟨x1, x2, x3, hD⟩ : ∃ x1 x2 x3, Hid (decF l ((textBits s).drop n) = (x1, x2, x3)) := ⟨_, _, _, rfl⟩
  rw [hD.out] at HD hg hN hxb hx2
  simp only at hN hxb hx2
  clear hD
  obtain ⟨M, hM⟩ : ∃ M, Hid (n + x3 = M) := ⟨_, rfl⟩
  have hg2 := hg.out
  simp only at hg2
  rw [hM.out] at HD hN hg2
  have hM3 : IntKind.i64.wrap ((M : Int) - (n : Int)) = (x3 : Int) := by have := hM.out; rw [show (M : Int) - (n : Int) = x3 by omega]; exact IntWalk.i64_in _ ⟨by omega, by omega⟩
  replace hg2 := Lib.hid hg2
  clear hM hg
  go_enter Try.func25, Try.ntmps25
  go_wp2_with fail
  refine HK.out.mono ?_
  rintro e1 w1 ⟨rfl, rfl⟩
  have c0 := H1.cells
  go_wp2_with fail
  refine HU.out.mono ?_
  rintro e1 w1 ⟨rfl, rfl⟩
  go_wp2_with fail
  refine HD.out.mono ?_
  rintro e1 w2 ⟨_, rfl, rfl, H2⟩
  clear HK HU HD H c0 H1
  replace H2 : Own w0 w2 (blk g (.cells #[.pointer (some ⟨rg, 0, none⟩), .bool false, .int .i64 0] 45) :: Rdr rg s M :: Tbl t l :: ps) := H2.front 2 rfl
  have HU2 := Lib.hid (used_any H2.swap)
  have c0 := H2.cells
  have hxd : (x2 != 0) = true ∧ x2 = 2 ∨ (x2 != 0) = false ∧ x2 = 0 := by
    rcases hx2 with h | h
    · right; subst h; exact ⟨rfl, rfl⟩
    · left; subst h; exact ⟨rfl, rfl⟩
  clear hx2
  rcases hxd with ⟨hxb2, rfl⟩ | ⟨hxb2, rfl⟩
  · clear hxb2
    by_cases hlt : x3 < 15
    · have hltI : (x3 : Int) < 15 := by omega
      rw [if_pos ⟨by decide, hlt⟩] at hg2
      go_wp2_with fail
      refine HU2.out.mono ?_
      rintro e1 w3 ⟨rfl, rfl⟩
      go_wp2_with (refine wpList_store_bool rfl _ _ rfl rfl H2 rfl (by kernel_rfl) (by simp) ?_; clear H2 c0; intro w3 H2)
      go_ret
      exact ⟨_, rfl, show PSymP _ _ _ _ _ _ _ _ _ _ from ⟨x1, M, -1, rfl, hxb.1, hxb.2, hN, fun h => absurd rfl h, fun _ => hg2.out, Own.unprt H2⟩⟩
    · have hltI : ¬ (x3 : Int) < 15 := by omega
      rw [if_neg (fun h => hlt h.2)] at hg2
      go_wp2_with fail
      refine HU2.out.mono ?_
      rintro e1 w3 ⟨rfl, rfl⟩
      go_wp2_with (refine wpList_store_int rfl _ _ rfl rfl H2 rfl (by kernel_rfl) (by simp) ?_; clear H2 c0; intro w3 H2)
      go_ret
      exact ⟨_, rfl, show PSymP _ _ _ _ _ _ _ _ _ _ from ⟨x1, M, 2, rfl, hxb.1, hxb.2, hN, fun h => absurd rfl h, fun _ => hg2.out, Own.unprt (e := 2) H2⟩⟩
  · rw [if_neg (fun h => h.1 rfl)] at hg2
    go_wp2_with (refine wpList_store_int rfl _ _ rfl rfl H2 rfl (by kernel_rfl) (by simp) ?_; clear H2 c0; intro w3 H2)
    go_ret
    exact ⟨_, rfl, show PSymP _ _ _ _ _ _ _ _ _ _ from ⟨x1, M, 0, rfl, hxb.1, hxb.2, hN, fun h => absurd rfl h, fun _ => hg2.out, Own.unprt (e := 0) H2⟩⟩
end Go.Proofs.Ytljejkdkjnbmhaa
/- As XCalm: of the operations in 'tw', whose values are known, too, S is told when they were done. No program in sight. (Written by tools/trk.py.) -/
namespace Go.Proofs.Ytljejkdkjnbmhaa.Trk
open Go.RowKit

def trk (tw : List Nat) (i : Nat) (v : Value) (σ : Sig) : Sig := if i ∈ tw then σ.upd i v else σ
/-- In every world that meets S the operation yields v, and S holds behind it. -/
def Calm1 (P : Program) (S : Sig → World → Prop) (tw : List Nat) (i : Nat) (o : Oper) (a : Act) (v : Value) : Prop :=
  ∀ σ w, S σ w → (i ∈ tw → σ i = none) → ∀ (K : Act → World → Prop) (Q : Exit → Act → World → Prop), (∀ w', S (trk tw i v σ) w' → K (a.put o.dst v) w') → o.wp P a w K Q

def calm (P : Program) (ops : Array Oper) (S : Sig → World → Prop) (nw tw : List Nat) (R : Act → Prop) : Nat → List Oper → Act → Prop
  | _, [], a => R a
  | i, o :: rest, a => (i ∈ nw ∧ New1 P S i o a ∧ calm P ops S nw tw R (i + 1) rest a) ∨
      (i ∉ nw ∧ Region.wanted o (yielded ops a.tmps) = true ∧ ∃ v, Calm1 P S tw i o a v ∧ calm P ops S nw tw R (i + 1) rest (a.put o.dst v)) ∨
      (i ∉ nw ∧ Region.wanted o (yielded ops a.tmps) = false ∧ calm P ops S nw tw R (i + 1) rest (a.put o.dst undef))

section
variable {P : Program} {ops : Array Oper} {S : Sig → World → Prop} {nw tw : List Nat} {R : Act → Prop} {a : Act} {o : Oper} {rest : List Oper} {i : Nat}
theorem calm_nil (h : R a) : calm P ops S nw tw R i [] a := h
theorem calm_step (v : Value) (hi : i ∉ nw) (hw : Region.wanted o (yielded ops a.tmps) = true)
    (h1 : ∀ σ w, S σ w → (i ∈ tw → σ i = none) → ∀ (K : Act → World → Prop) (Q : Exit → Act → World → Prop), (∀ w', S (trk tw i v σ) w' → K (a.put o.dst v) w') → o.wp P a w K Q) (h : calm P ops S nw tw R (i + 1) rest (a.put o.dst v)) : calm P ops S nw tw R i (o :: rest) a := .inr (.inl ⟨hi, hw, v, h1, h⟩)
end

section
variable {P : Program} {ops : Array Oper} {S : Sig → World → Prop} {nw tw : List Nat}
theorem calm_frames {R : Act → Prop} : ∀ (l : List Oper) (i : Nat) (a : Act), calm P ops S nw tw R i l a →
    ∃ vs : List Value, vs.length = l.length ∧ R (frames ((dets nw i l).zip vs) a) ∧
      ∀ k o, l[k]? = some o → ∃ v, vs[k]? = some v ∧
        ((i + k ∈ nw ∧ New1 P S (i + k) o (frames (((dets nw i l).zip vs).take k) a)) ∨
         (i + k ∉ nw ∧ Region.wanted o (yielded ops (frames (((dets nw i l).zip vs).take k) a).tmps) = true ∧ Calm1 P S tw (i + k) o (frames (((dets nw i l).zip vs).take k) a) v) ∨
         (i + k ∉ nw ∧ Region.wanted o (yielded ops (frames (((dets nw i l).zip vs).take k) a).tmps) = false ∧ v = undef)) := by
  intro l
  induction l with
  | nil => intro i a h; exact ⟨[], rfl, h, fun k o hk => by simp at hk⟩
  | cons o l ih =>
    intro i a h
    have step : ∀ (v : Value) (a' : Act), a' = a.put (if i ∈ nw then none else o.dst) v → calm P ops S nw tw R (i + 1) l a' →
        ((i ∈ nw ∧ New1 P S i o a) ∨ (i ∉ nw ∧ Region.wanted o (yielded ops a.tmps) = true ∧ Calm1 P S tw i o a v) ∨ (i ∉ nw ∧ Region.wanted o (yielded ops a.tmps) = false ∧ v = undef)) → ∃ vs : List Value, vs.length = (o :: l).length ∧ R (frames ((dets nw i (o :: l)).zip vs) a) ∧
      ∀ k o', (o :: l)[k]? = some o' → ∃ v, vs[k]? = some v ∧
        ((i + k ∈ nw ∧ New1 P S (i + k) o' (frames (((dets nw i (o :: l)).zip vs).take k) a)) ∨
         (i + k ∉ nw ∧ Region.wanted o' (yielded ops (frames (((dets nw i (o :: l)).zip vs).take k) a).tmps) = true ∧ Calm1 P S tw (i + k) o' (frames (((dets nw i (o :: l)).zip vs).take k) a) v) ∨
         (i + k ∉ nw ∧ Region.wanted o' (yielded ops (frames (((dets nw i (o :: l)).zip vs).take k) a).tmps) = false ∧ v = undef)) := by
      intro v a' ha hc h0
      obtain ⟨vs, hl, hR, hk⟩ := ih _ _ hc
      refine ⟨v :: vs, by simp [hl], by rw [ha] at hR; exact hR, fun k o' hk' => ?_⟩
      cases k with
      | zero => simp at hk'; subst hk'; exact ⟨v, rfl, h0⟩
      | succ k =>
        have := hk k o' (by simpa using hk')
        rw [ha, show i + 1 + k = i + (k + 1) by omega] at this
        exact this
    rcases h with ⟨hi, h1, h2⟩ | ⟨hi, hw, v, h1, h2⟩ | ⟨hi, hw, h2⟩
    · exact step undef a (by rw [if_pos hi]; rfl) h2 (.inl ⟨hi, h1⟩)
    · exact step v _ (by rw [if_neg hi]) h2 (.inr (.inl ⟨hi, hw, h1⟩))
    · exact step undef _ (by rw [if_neg hi]) h2 (.inr (.inr ⟨hi, hw, rfl⟩))

theorem Calm1.at {tw : List Nat} {i : Nat} {o : Oper} {a a' : Act} {v : Value} (h : Calm1 P S tw i o a v) (he : execOp a'.eval o = execOp a.eval o) (hs : a.tmps.size = a'.tmps.size) {σ : Sig} {w : World} (hw : S σ w) (hfr : i ∈ tw → σ i = none)
    (K : Act → World → Prop) (Q : Exit → Act → World → Prop) (hK : ∀ w', S (trk tw i v σ) w' → K (a'.put o.dst v) w') : o.wp P a' w K Q := by
  have h1 := h σ w hw hfr (fun a1 w1 => a1 = a.put o.dst v ∧ S (trk tw i v σ) w1) (fun _ _ _ => False) (fun w' hw' => ⟨rfl, hw'⟩)
  unfold Oper.wp at *
  rw [he]
  generalize (execOp a.eval o).run P w = r at *
  cases r with
  | ok n w' =>
    cases n <;> simp only [Oper.upon] at h1 ⊢
    case value u => rw [put_eq hs h1.1]; exact hK _ h1.2
    case skip => rw [put_eq hs h1.1]; exact hK _ h1.2
    case defer d =>
      have := congrArg (fun x => x.defers.length) h1.1
      cases hd : o.dst <;> simp [Act.put, hd] at this
    case enter f args =>
      refine Calls.mono h1 fun e w'' he => ?_
      cases e with
      | returned u =>
        show K (a'.put o.dst u) w''
        rw [put_eq hs he.1]; exact hK _ he.2
      | panicked c => exact he.elim
      | outgrown => obtain ⟨_, _, hh⟩ := he; exact hh.elim
    case row row args => exact Rows.mono h1 fun u w'' he => by rw [put_eq hs he.1]; exact hK _ he.2
  | halt x w' => cases x <;> simp only [Oper.upon] at h1 ⊢
theorem wpAny_new {Q : Exit → Act → World → Prop} {a a0 : Act} {w : World} {l : List Oper} (S : Sig → World → Prop) (n : Nat) (nw tw : List Nat) (pre : List Nat) (htw : ∀ k ∈ tw, k < n ∧ k ∉ nw ∧ k ∉ pre ∧ ∀ o, l[k]? = some o → o.guard = none) (hok : calmOk l.toArray n nw pre = true) (hS : S Sig.no w)
    (h : calm P l.toArray S nw tw (fun a' => ∀ σ w', (∀ k ∈ nw, (σ k).isSome = true) → (∀ k ∈ tw, (σ k).isSome = true) → S σ w' → wpList P l.toArray Q (l.drop n) (putNew l nw σ a') w') 0 (l.take n) a)
    (listed0 : Array Bool) (hs0 : listed0.size = l.length) (hl0 : ∀ k, k < l.length → listed0.getD k true = true → k ∈ pre) (hp0 : ∀ p ∈ pre, listed0.getD p true = true)
    (ha0 : PreRun P l pre a a0) :
    wpAny P .any l.toArray Q (left listed0) listed0 a0 w := by
  have g := good_of hok
  have hnl : n ≤ l.length := by simpa using g.le
  obtain ⟨vs, hvl, hR, hk⟩ := calm_frames _ _ _ h
  have hvn : vs.length = n := by simp [hvl, hnl]
  obtain ⟨D, hD⟩ : ∃ D, (dets nw 0 (l.take n)).zip vs = D := ⟨_, rfl⟩
  rw [hD] at hR hk
  simp only [Nat.zero_add] at hk
  have hDl : D.length = n := by rw [← hD]; simp [dets_length, hvn, hnl]
  have hget : ∀ k, k < n → (dets nw 0 (l.take n))[k]? = (l[k]?).map fun o => if k ∈ nw then none else o.dst := by
    intro k hk
    rw [dets_get]
    simp [hk]
  -- the k-th of D
  have hDk : ∀ (k : Nat) (o : Oper) (v : Value), k < n → k ∉ nw → l[k]? = some o → vs[k]? = some v → D[k]? = some (o.dst, v) := by
    intro k o v hkn hnk ho hv
    rw [← hD, List.getElem?_zip_eq_some]
    refine ⟨?_, hv⟩
    rw [hget k hkn, ho]
    simp [hnk]
  have hDd : ∀ (k : Nat) (t : Tmp) (v : Value), D[k]? = some (some t, v) → k < n ∧ k ∉ nw ∧ ∃ o, l[k]? = some o ∧ o.dst = some t := by
    intro k t v hk
    have hkn : k < n := by rw [← hDl]; exact (List.getElem?_eq_some_iff.1 hk).1
    rw [← hD, List.getElem?_zip_eq_some] at hk
    obtain ⟨h1, _⟩ := hk
    rw [hget k hkn, Option.map_eq_some_iff] at h1
    obtain ⟨o, ho, hd⟩ := h1
    by_cases hnk : k ∈ nw
    · simp [hnk] at hd
    · rw [if_neg hnk] at hd
      exact ⟨hkn, hnk, o, ho, hd⟩
  have huniq : ∀ (j k : Nat) (t : Tmp) (u v : Value), k ≠ j → D[k]? = some (some t, u) → D[j]? ≠ some (some t, v) := by
    intro j k t u v hkj h1 h2
    obtain ⟨hkn, _, ok, hok', hdk⟩ := hDd k _ u h1
    obtain ⟨hjn, _, oj, hoj, hdj⟩ := hDd j _ v h2
    exact (g.pair k j ok oj t hkn hjn hkj (by simpa using hok') (by simpa using hoj) hdk).1 hdj
  -- .. with the new ones' values
  obtain ⟨F, hF⟩ : ∃ F : Sig → Nat → Option (Option Tmp × Value), ∀ σ k, F σ k = if k ∈ nw then (l[k]?).map fun o => (o.dst, (σ k).getD undef) else D[k]? := ⟨_, fun _ _ => rfl⟩
  have hFd : ∀ (σ : Sig) (k : Nat) (t : Tmp) (v : Value), F σ k = some (some t, v) → k < n ∧ ∃ o, l[k]? = some o ∧ o.dst = some t := by
    intro σ k t v hk
    rw [hF] at hk
    by_cases hnk : k ∈ nw
    · rw [if_pos hnk, Option.map_eq_some_iff] at hk
      obtain ⟨o, ho, hd⟩ := hk
      exact ⟨g.newLt k hnk, o, ho, by simp at hd; exact hd.1⟩
    · rw [if_neg hnk] at hk
      obtain ⟨h1, _, h3⟩ := hDd k t v hk
      exact ⟨h1, h3⟩
  have hFu : ∀ (σ : Sig) (j k : Nat) (t : Tmp) (u v : Value), k ≠ j → F σ k = some (some t, u) → F σ j ≠ some (some t, v) := by
    intro σ j k t u v hkj h1 h2
    obtain ⟨hkn, ok, hok', hdk⟩ := hFd σ k _ u h1
    obtain ⟨hjn, oj, hoj, hdj⟩ := hFd σ j _ v h2
    exact (g.pair k j ok oj t hkn hjn hkj (by simpa using hok') (by simpa using hoj) hdk).1 hdj
  have hend : ∀ (E : Nat → Prop) (a' : Act) (σ : Sig), (∀ k, k < n → E k) → Agree (F σ) E a a' → a' = putNew l nw σ (frames D a) := by
    intro E a' σ hall hA
    have hB := agree_frames D huniq a n (by omega)
    rw [List.take_of_length_le (by omega)] at hB
    obtain ⟨k1, k2⟩ := putNew_keeps l σ nw (frames D a)
    refine act_ext ?_ (hA.defers.trans (hB.defers.symm.trans k1.symm))
    apply Array.ext_getElem?
    intro t
    by_cases hts : t < a.tmps.size
    · by_cases hw : ∃ (k : Nat) (v : Value), F σ k = some (some t, v)
      · obtain ⟨k, v, hkv⟩ := hw
        obtain ⟨hkn, o, ho, hd⟩ := hFd σ k _ v hkv
        rw [hA.wrote k t v (hall k hkn) hkv hts]
        have hkv' := hkv
        rw [hF] at hkv
        by_cases hnk : k ∈ nw
        · rw [if_pos hnk, ho] at hkv
          simp at hkv
          rw [putNew_new l σ t k nw _ hnk (by simp [ho, hd]) (fun j hj hdj => ?_) (by rw [hB.size]; exact hts), hkv.2]
          by_cases hjk : j = k
          · exact hjk
          · exfalso
            cases hlj : l[j]? with
            | none => rw [hlj] at hdj; cases hdj
            | some oj =>
              rw [hlj] at hdj
              refine hFu σ j k t v ((σ j).getD undef) (Ne.symm hjk) hkv' ?_
              rw [hF, if_pos hj, hlj]
              simp at hdj
              simp [hdj]
        · rw [if_neg hnk] at hkv
          rw [putNew_old l σ t nw _ fun j hj hdj => ?_, hB.wrote k t v hkn hkv hts]
          cases hlj : l[j]? with
          | none => rw [hlj] at hdj; cases hdj
          | some oj =>
            rw [hlj] at hdj
            refine hFu σ j k t v ((σ j).getD undef) (fun e => hnk (e ▸ hj)) hkv' ?_
            rw [hF, if_pos hj, hlj]
            simp at hdj
            simp [hdj]
      · rw [hA.kept t fun k v _ hkv => hw ⟨k, v, hkv⟩, putNew_old l σ t nw _ fun j hj hdj => ?_, hB.kept t fun k v _ hkv => ?_]
        · obtain ⟨_, hnk, _⟩ := hDd k t v hkv
          exact hw ⟨k, v, by rw [hF, if_neg hnk]; exact hkv⟩
        · cases hlj : l[j]? with
          | none => rw [hlj] at hdj; cases hdj
          | some oj =>
            rw [hlj] at hdj
            refine hw ⟨j, (σ j).getD undef, ?_⟩
            rw [hF, if_pos hj, hlj]
            simp at hdj
            simp [hdj]
    · rw [Array.getElem?_eq_none (show a'.tmps.size ≤ t from by rw [hA.size]; exact Nat.le_of_not_lt hts), Array.getElem?_eq_none (show (putNew l nw σ (frames D a)).tmps.size ≤ t from by rw [k2, hB.size]; exact Nat.le_of_not_lt hts)]
  have main : ∀ (fuel : Nat) (listed : Array Bool) (a' : Act) (w' : World) (σ : Sig), listed.size = l.length → left listed = fuel → (∀ j, n ≤ j → j < l.length → listed.getD j true = false) →
      (∀ k o, k < l.length → listed.getD k true = true → l[k]? = some o → ∀ e ∈ o.after, Region.binds .any e = true → listed.getD e.on false = true) →
      (∀ k ∈ nw, listed.getD k true = true → (σ k).isSome = true) → (∀ k ∈ tw, (listed.getD k true = true → (σ k).isSome = true) ∧ (listed.getD k true = false → σ k = none)) → (∀ p ∈ pre, listed.getD p true = true) →
      Agree (F σ) (fun k => k < n ∧ listed.getD k true = true) a a' → S σ w' → wpAny P .any l.toArray Q fuel listed a' w' := by
    intro fuel
    induction fuel with
    | zero =>
      intro listed a' w' σ hs hl ht hc hσ hτ hP hA hSw
      have hall : ∀ k, k < l.length → listed.getD k true = true := fun k hk => by
        cases hkk : listed.getD k true with
        | true => rfl
        | false => have := left_pos (j := k) (by omega) hkk; omega
      have hn : n = l.length := by
        rcases Nat.lt_or_ge n l.length with h | h
        · have := hall n h; rw [ht n (Nat.le_refl _) h] at this; cases this
        · omega
      refine tail_any g 0 n listed a' w' hs (Nat.le_refl _) (fun k _ hk => hall k hk) ht hl ?_
      rw [hend _ a' σ (fun k hk => ⟨hk, hall k (by omega)⟩) hA]
      exact hR σ w' (fun k hk => hσ k hk (hall k (by have := g.newLt k hk; omega))) (fun k hk => (hτ k hk).1 (hall k (by have := (htw k hk).1; omega))) hSw
    | succ fuel ih =>
      intro listed a' w' σ hs hl ht hc hσ hτ hP hA hSw
      by_cases hpre : ∀ k, k < n → listed.getD k true = true
      · refine tail_any g (fuel + 1) n listed a' w' hs (Nat.le_refl _) (fun k hk _ => hpre k hk) ht hl ?_
        rw [hend _ a' σ (fun k hk => ⟨hk, hpre k hk⟩) hA]
        exact hR σ w' (fun k hk => hσ k hk (hpre k (g.newLt k hk))) (fun k hk => (hτ k hk).1 (hpre k (htw k hk).1)) hSw
      · -- the least that is not listed is ready
        have hex : ∃ k, k < n ∧ listed.getD k true = false := by
          rcases Classical.em (∃ k, k < n ∧ listed.getD k true = false) with h | h
          · exact h
          · exact absurd (fun k hk => by
              cases hkk : listed.getD k true with
              | true => rfl
              | false => exact absurd ⟨k, hk, hkk⟩ h) hpre
        obtain ⟨m, hm, hmin⟩ : ∃ m, (m < n ∧ listed.getD m true = false) ∧ ∀ k, k < m → listed.getD k true = true := by
          obtain ⟨k, hk⟩ := hex
          induction k using Nat.strongRecOn with
          | _ k ihk =>
            rcases Classical.em (∃ j, j < k ∧ listed.getD j true = false) with ⟨j, hj, hjl⟩ | h
            · exact ihk j hj ⟨by omega, hjl⟩
            · refine ⟨k, hk, fun j hj => ?_⟩
              cases hjj : listed.getD j true with
              | true => rfl
              | false => exact absurd ⟨j, hj, hjj⟩ h
        obtain ⟨om, hom⟩ : ∃ o, l[m]? = some o := ⟨_, List.getElem?_eq_getElem (by omega)⟩
        have hready : m ∈ Region.ready .any l.toArray listed := mem_ready.2 ⟨by simp; omega, hm.2, om, by simpa using hom, fun e he hb => by
          have := g.low m om (by simpa using hom) e he hb
          rw [← getD_tf (by omega)]
          exact hmin _ this⟩
        refine ⟨fun h => (by rw [h] at hready; cases hready), fun i hi => ?_⟩
        obtain ⟨hi1, hi2, o, ho, hi3⟩ := mem_ready.1 hi
        have hi1 : i < l.length := by simpa using hi1
        have hol : l[i]? = some o := by simpa using ho
        have hin : i < n := by
          rcases Nat.lt_trichotomy i n with h | h | h
          · exact h
          · -- all that it waits for, and so all, are listed
            subst h
            have hall : ∀ d k, i - k = d → k < i → listed.getD k true = true := by
              intro d
              induction d using Nat.strongRecOn with
              | _ d ihd =>
                intro k hd hk
                by_cases hpk : k ∈ pre
                · exact hP k hpk
                obtain ⟨j, hkj, hji, oj, hoj, hwj⟩ := g.sink (by simpa using hi1) k hk hpk
                obtain ⟨e, he, hb, heq⟩ := waits_spec hwj
                rw [getD_tf (by omega), ← heq]
                rcases Nat.lt_or_ge j i with hlt | hge
                · have hjl := ihd (i - j) (by omega) j rfl hlt
                  exact hc j oj (by omega) hjl (by simpa using hoj) e he hb
                · have : j = i := by omega
                  subst this
                  rw [ho] at hoj
                  cases hoj
                  exact hi3 e he hb
            have := hall _ m rfl hm.1
            rw [hm.2] at this
            cases this
          · obtain ⟨e, he, hb, heq⟩ := waits_spec (g.chain i o h (by simpa using hol))
            have := hi3 e he hb
            rw [heq, ← getD_tf (by omega), ht (i - 1) (by omega) (by omega)] at this
            cases this
        obtain ⟨v, hv, hcase⟩ := hk i o (by simp [hin, hol])
        have hAi := agree_frames D huniq a i (by omega)
        have hsame := same_op (ops := l.toArray) (o := o) (a := frames (D.take i) a) (a' := a') (g.noSel i o ho) (by
          intro t htl
          by_cases hw : ∃ (k : Nat) (u : Value), F σ k = some (some t, u)
          · obtain ⟨k, u, hku⟩ := hw
            obtain ⟨hkn, ok, hok', hdk⟩ := hFd σ k _ u hku
            have hnk : k ∉ nw := fun hnk => g.newApart k hnk ok t (by simpa using hok') hdk i o hin ho htl
            have hDu : D[k]? = some (some t, u) := by rw [hF, if_neg hnk] at hku; exact hku
            by_cases hts : t < a.tmps.size
            · have hki : k ≠ i := fun e => by
                subst e
                rw [hol] at hok'
                cases hok'
                exact g.own k o t hkn ho hdk htl
              rcases (g.pair k i ok o t hkn hin hki (by simpa using hok') ho hdk).2 with h1 | ⟨hlt, hwt⟩ | ⟨hlt, hwt⟩
              · exact absurd htl h1
              · obtain ⟨e, he, hb, heq⟩ := waits_spec hwt
                have hkl : listed.getD k true = true := by
                  rw [getD_tf (by omega), ← heq]; exact hi3 e he hb
                rw [hA.wrote k t u ⟨hkn, hkl⟩ hku hts, hAi.wrote k t u hlt hDu hts]
              · obtain ⟨e, he, hb, heq⟩ := waits_spec hwt
                have hkl : ¬ listed.getD k true = true := fun hkl => by
                  have := hc k ok (by omega) hkl hok' e he hb
                  rw [heq, ← getD_tf (by omega), hi2] at this
                  cases this
                rw [hA.kept t fun k' u' hk' hD' => ?_, hAi.kept t fun k' u' hk' hD' => ?_]
                · by_cases hkk : k' = k
                  · subst hkk; omega
                  · exact huniq k k' t u' u hkk hD' hDu
                · by_cases hkk : k' = k
                  · subst hkk; exact hkl hk'.2
                  · exact hFu σ k k' t u' u hkk hD' hku
            · rw [Array.getElem?_eq_none (show a'.tmps.size ≤ t from by rw [hA.size]; exact Nat.le_of_not_lt hts), Array.getElem?_eq_none (show (frames (D.take i) a).tmps.size ≤ t from by rw [hAi.size]; exact Nat.le_of_not_lt hts)]
          · rw [hA.kept t fun k v _ hkv => hw ⟨k, v, hkv⟩, hAi.kept t fun k v _ hkv => ?_]
            obtain ⟨_, hnk, _⟩ := hDd k t v hkv
            exact hw ⟨k, v, by rw [hF, if_neg hnk]; exact hkv⟩)
        have hset : ∀ k b, (listed.setIfInBounds i true).getD k b = if k = i then true else listed.getD k b := by
          intro k b
          by_cases hki : k = i
          · subst hki; simp [hs, hi1]
          · have : i ≠ k := Ne.symm hki
            simp [Array.getElem?_setIfInBounds_ne this, hki]
        have next : ∀ (σ' : Sig) (u : Value) w'', F σ' i = some (o.dst, u) → Agree (F σ') (fun k => k < n ∧ listed.getD k true = true) a a' → (∀ k ∈ nw, (listed.setIfInBounds i true).getD k true = true → (σ' k).isSome = true) → (∀ k ∈ tw, ((listed.setIfInBounds i true).getD k true = true → (σ' k).isSome = true) ∧ ((listed.setIfInBounds i true).getD k true = false → σ' k = none)) → S σ' w'' →
            wpAny P .any l.toArray Q fuel (listed.setIfInBounds i true) (a'.put o.dst u) w'' := by
          intro σ' u w'' hFi hA' hσ' hτ' hSw''
          refine ih _ _ w'' σ' (by simpa using hs) (by have := left_set (j := i) (by omega) hi2; omega) ?_ ?_ hσ' hτ' (fun p hp => by rw [hset]; split <;> first | rfl | exact hP p hp) ?_ hSw''
          · intro j hj hjl
            rw [hset, if_neg (by omega)]
            exact ht j hj hjl
          · intro k ok hkl hkt hok' e he hb
            rw [hset]
            split
            · rfl
            · rw [hset] at hkt
              by_cases hki : k = i
              · subst hki
                rw [hol] at hok'
                cases hok'
                exact hi3 e he hb
              · rw [if_neg hki] at hkt
                exact hc k ok hkl hkt hok' e he hb
          · have := hA'.put (j := i) hFi (fun k t u' hki hD' e => hFu σ' i k t u' u hki hD' (by rw [hFi, e]))
            refine ⟨this.defers, this.size, fun k t u hk => this.wrote k t u ?_, fun t ht => this.kept t fun k u hk => ht k u ?_⟩
            · obtain ⟨h1, h2⟩ := hk
              rw [hset] at h2
              by_cases hki : k = i
              · exact .inr hki
              · rw [if_neg hki] at h2; exact .inl ⟨h1, h2⟩
            · rw [hset]
              rcases hk with ⟨h1, h2⟩ | rfl
              · exact ⟨h1, by split <;> first | rfl | exact h2⟩
              · exact ⟨hin, by simp⟩
        have hσset : i ∉ nw → ∀ k ∈ nw, (listed.setIfInBounds i true).getD k true = true → (σ k).isSome = true := fun hni k hk hkl => by
          rw [hset, if_neg (fun (e : k = i) => hni (e ▸ hk))] at hkl
          exact hσ k hk hkl
        have hτset : i ∉ tw → ∀ k ∈ tw, ((listed.setIfInBounds i true).getD k true = true → (σ k).isSome = true) ∧ ((listed.setIfInBounds i true).getD k true = false → σ k = none) := fun hni k hk => by
          rw [hset, if_neg (fun (e : k = i) => hni (e ▸ hk))]
          exact hτ k hk
        unfold wpOp
        simp only [ho]
        rcases hcase with ⟨hni, hn1⟩ | ⟨hni, hw1, hc1⟩ | ⟨hni, hw1, rfl⟩
        · have hg := g.newPlain i hni o ho
          rw [show Region.wanted o (yielded l.toArray a'.tmps) = true by simp [Region.wanted, hg]]
          refine .inl (hn1.at hsame.1 (by rw [hAi.size, hA.size]) hSw _ _ fun u w'' hSu => ?_)
          refine next (σ.upd i u) u w'' (by rw [hF, if_pos hni, hol]; simp [Sig.upd]) ?_ ?_ ?_ hSu
          · have hne : ∀ k, (k < n ∧ listed.getD k true = true) → F (σ.upd i u) k = F σ k := fun k hk => by
              have hki : k ≠ i := fun e => by subst e; rw [hi2] at hk; cases hk.2
              rw [hF, hF]
              simp [Sig.upd, hki]
            exact ⟨hA.defers, hA.size, fun k t u' hk hD' => hA.wrote k t u' hk (by rw [← hne k hk]; exact hD'), fun t ht => hA.kept t fun k u' hk => by rw [← hne k hk]; exact ht k u' hk⟩
          · intro k hk hkl
            by_cases hki : k = i
            · simp [Sig.upd, hki]
            · rw [hset, if_neg hki] at hkl
              simpa [Sig.upd, hki] using hσ k hk hkl
          · intro k hk
            have hki : k ≠ i := fun e => (htw k hk).2.1 (e ▸ hni)
            rw [hset, if_neg hki]
            simpa [Sig.upd, hki] using hτ k hk
        · rw [hsame.2, hw1]
          by_cases hit : i ∈ tw
          · refine .inl (hc1.at hsame.1 (by rw [hAi.size, hA.size]) hSw (fun hit => (hτ i hit).2 hi2) _ _ fun w'' hSu => next (σ.upd i v) v w'' (by rw [hF, if_neg hni]; exact hDk i o v hin hni hol hv) ?_ ?_ ?_ (by rw [trk, if_pos hit] at hSu; exact hSu))
            · have hne : ∀ k, (k < n ∧ listed.getD k true = true) → F (σ.upd i v) k = F σ k := fun k hk => by
                have hki : k ≠ i := fun e => by subst e; rw [hi2] at hk; cases hk.2
                rw [hF, hF]
                simp [Sig.upd, hki]
              exact ⟨hA.defers, hA.size, fun k t u' hk hD' => hA.wrote k t u' hk (by rw [← hne k hk]; exact hD'), fun t ht => hA.kept t fun k u' hk => by rw [← hne k hk]; exact ht k u' hk⟩
            · intro k hk hkl
              by_cases hki : k = i
              · simp [Sig.upd, hki]
              · rw [hset, if_neg hki] at hkl
                simpa [Sig.upd, hki] using hσ k hk hkl
            · intro k hk
              rw [hset]
              by_cases hki : k = i
              · simp [Sig.upd, hki]
              · rw [if_neg hki]
                simpa [Sig.upd, hki] using hτ k hk
          · exact .inl (hc1.at hsame.1 (by rw [hAi.size, hA.size]) hSw (fun hit => (hτ i hit).2 hi2) _ _ fun w'' hSu => next σ v w'' (by rw [hF, if_neg hni]; exact hDk i o v hin hni hol hv) hA (hσset hni) (hτset hit) (by rw [trk, if_neg hit] at hSu; exact hSu))
        · rw [hsame.2, hw1]
          have hit : i ∉ tw := fun hit => by
            have := (htw i hit).2.2.2 o hol
            simp [Region.wanted, this] at hw1
          exact next σ undef w' (by rw [hF, if_neg hni]; exact hDk i o undef hin hni hol hv) hA (hσset hni) (hτset hit) hSw
  refine main _ listed0 a0 w Sig.no hs0 rfl (fun j hnj hj => ?_) (fun k o hk hkt ho e he hb => ?_) (fun k hk hkt => ?_) (fun k hk => ?_) hp0 ?_ hS
  · cases hjj : listed0.getD j true with
    | false => rfl
    | true =>
      have := (g.preAny j (hl0 j hj hjj)).1
      omega
  · obtain ⟨_, _, o', ho', _, haf⟩ := g.preAny k (hl0 k hk hkt)
    obtain rfl : o' = o := by simpa [ho] using ho'.symm
    have := g.low k o' (by simpa using ho) e he hb
    rw [← getD_tf (by omega)]
    exact hp0 _ (haf e he hb)
  · exact absurd hk (g.preAny k (hl0 k (by have := g.newLt k hk; omega) hkt)).2.1
  · exact ⟨fun hkt => absurd (hl0 k (by have := (htw k hk).1; omega) hkt) (htw k hk).2.2.1, fun _ => rfl⟩
  · have step : ∀ (r done : List Nat) (a1 : Act), preOk l.toArray n nw done r = true → PreRun P l r a1 a0 → Agree (F Sig.no) (fun k => k ∈ done) a a1 →
        (∀ k ∈ done, ∀ o, l[k]? = some o → ∀ e ∈ o.after, Region.binds .any e = true → e.on ∈ done) → Agree (F Sig.no) (fun k => k ∈ r ∨ k ∈ done) a a0 := by
      intro r
      induction r with
      | nil =>
        intro done a1 _ hr hA _
        obtain rfl : a0 = a1 := hr
        simpa using hA
      | cons p r ih =>
        intro done a1 hpo hr hA hcl
        obtain ⟨hpn, hpw, hpd, ⟨o, hop, hgd, haf⟩, hpo'⟩ := preOk_cons hpo
        have hop : l[p]? = some o := by simpa using hop
        obtain ⟨o', v, ho', hrun, hr'⟩ := hr
        obtain rfl : o' = o := by simpa [hop] using ho'.symm
        obtain ⟨u, hu, hcase⟩ := hk p o' (by simp [hpn, hop])
        have hAi := agree_frames D huniq a p (by omega)
        have hsame := same_op (ops := l.toArray) (o := o') (a := a1) (a' := frames (D.take p) a) (g.noSel p o' (by simpa using hop)) (by
          intro t htl
          by_cases hts : t < a.tmps.size
          · by_cases hw : ∃ (k : Nat) (u : Value), F Sig.no k = some (some t, u)
            · obtain ⟨k, x, hkx⟩ := hw
              obtain ⟨hkn, ok, hok', hdk⟩ := hFd Sig.no k _ x hkx
              have hnk : k ∉ nw := fun hnk => g.newApart k hnk ok t (by simpa using hok') hdk p o' hpn (by simpa using hop) htl
              have hDu : D[k]? = some (some t, x) := by rw [hF, if_neg hnk] at hkx; exact hkx
              have hkp : k ≠ p := fun e => by
                subst e
                rw [hop] at hok'
                cases hok'
                exact g.own k o' t hkn (by simpa using hop) hdk htl
              rcases (g.pair k p ok o' t hkn hpn hkp (by simpa using hok') (by simpa using hop) hdk).2 with h1 | ⟨hlt, hwt⟩ | ⟨hlt, hwt⟩
              · exact absurd htl h1
              · obtain ⟨e, he, hb, heq⟩ := waits_spec hwt
                have hkd : k ∈ done := heq ▸ haf e he hb
                rw [hA.wrote k t x hkd hkx hts, hAi.wrote k t x hlt hDu hts]
              · obtain ⟨e, he, hb, heq⟩ := waits_spec hwt
                have hkd : k ∉ done := fun hkd => hpd (heq ▸ hcl k hkd ok hok' e he hb)
                rw [hA.kept t fun k' u' hk' hD' => ?_, hAi.kept t fun k' u' hk' hD' => ?_]
                · by_cases hkk : k' = k
                  · subst hkk; omega
                  · exact huniq k k' t u' x hkk hD' hDu
                · by_cases hkk : k' = k
                  · subst hkk; exact hkd hk'
                  · exact hFu Sig.no k k' t u' x hkk hD' hkx
            · rw [hA.kept t fun k v _ hkv => hw ⟨k, v, hkv⟩, hAi.kept t fun k v _ hkv => ?_]
              obtain ⟨_, hnk, _⟩ := hDd k t v hkv
              exact hw ⟨k, v, by rw [hF, if_neg hnk]; exact hkv⟩
          · rw [Array.getElem?_eq_none (show (frames (D.take p) a).tmps.size ≤ t from by rw [hAi.size]; exact Nat.le_of_not_lt hts), Array.getElem?_eq_none (show a1.tmps.size ≤ t from by rw [hA.size]; exact Nat.le_of_not_lt hts)])
        have hput : a1.put o'.dst v = a1.put o'.dst u := by
          rcases hcase with ⟨hni, _⟩ | ⟨_, _, hc1⟩ | ⟨_, hw1, _⟩
          · exact absurd hni hpw
          · have h1 := hc1.at (a' := a1) hsame.1.symm (by rw [hAi.size, hA.size]) hS (fun _ => rfl) (fun a2 _ => a2 = a1.put o'.dst u) (fun _ _ _ => False) (fun _ _ => rfl)
            unfold Oper.wp at h1
            rw [hrun w] at h1
            simpa only [Oper.upon] using h1
          · exfalso
            simp [Region.wanted, hgd] at hw1
        rw [hput] at hr'
        have hFp : F Sig.no p = some (o'.dst, u) := by rw [hF, if_neg hpw]; exact hDk p o' u hpn hpw hop hu
        have hA' := hA.put (j := p) hFp (fun k t u' hki hD' e => hFu Sig.no p k t u' u hki hD' (by rw [hFp, e]))
        have hA2 : Agree (F Sig.no) (fun k => k ∈ p :: done) a (a1.put o'.dst u) :=
          ⟨hA'.defers, hA'.size, fun k t x hk => hA'.wrote k t x (by
            rcases List.mem_cons.1 hk with h | h
            · exact .inr h
            · exact .inl h), fun t ht => hA'.kept t fun k x hk => ht k x (by
            rcases hk with h | h
            · exact List.mem_cons_of_mem _ h
            · exact h ▸ List.mem_cons_self ..)⟩
        have := ih (p :: done) _ hpo' hr' hA2 (fun k hk o ho e he hb => by
          rcases List.mem_cons.1 hk with rfl | hk
          · rw [hop] at ho
            cases ho
            exact List.mem_cons_of_mem _ (haf e he hb)
          · exact List.mem_cons_of_mem _ (hcl k hk o ho e he hb))
        refine ⟨this.defers, this.size, fun k t x hk => this.wrote k t x ?_, fun t ht => this.kept t fun k x hk => ht k x ?_⟩
        · rcases hk with hk | hk
          · rcases List.mem_cons.1 hk with rfl | hk
            · exact .inr (List.mem_cons_self ..)
            · exact .inl hk
          · exact .inr (List.mem_cons_of_mem _ hk)
        · rcases hk with hk | hk
          · exact .inl (List.mem_cons_of_mem _ hk)
          · rcases List.mem_cons.1 hk with rfl | hk
            · exact .inl (List.mem_cons_self ..)
            · exact .inr hk
    have h0 : Agree (F Sig.no) (fun k => k ∈ ([] : List Nat)) a a := ⟨rfl, rfl, fun k t v hk _ _ => (by cases hk), fun t _ => rfl⟩
    have := step pre [] a g.preOrd ha0 h0 (fun k hk => by cases hk)
    refine ⟨this.defers, this.size, fun k t x hk => this.wrote k t x (.inl (hl0 k (by omega) hk.2)), fun t ht => this.kept t fun k x hk => ht k x ?_⟩
    rcases hk with hk | hk
    · exact ⟨(g.preAny k hk).1, hp0 k hk⟩
    · cases hk

theorem wp_region_new {id : Nat} {Q : Exit → Act → World → Prop} {a : Act} {w : World} {l : List Oper} (S : Sig → World → Prop) (n : Nat) (nw tw : List Nat) (htw : ∀ k ∈ tw, k < n ∧ k ∉ nw ∧ ∀ o, l[k]? = some o → o.guard = none) (hm : P.follows .mixedOrders = true) (hok : calmOk l.toArray n nw = true) (hS : S Sig.no w.drew)
    (h : calm P l.toArray S nw tw (fun a' => ∀ σ w', (∀ k ∈ nw, (σ k).isSome = true) → (∀ k ∈ tw, (σ k).isSome = true) → S σ w' → wpList P l.toArray Q (l.drop n) (putNew l nw σ a') w') 0 (l.take n) a) : (Code.region id l.toArray true).wp P Q a w := by
  refine wp_region_any hm ?_
  have hl := left_none l.toArray.size
  have := wpAny_new (a0 := a) S n nw tw [] (fun k hk => ⟨(htw k hk).1, (htw k hk).2.1, by simp, (htw k hk).2.2⟩) hok hS h (Array.replicate l.toArray.size false) (by simp) (fun k hk hkt => by simp [hk] at hkt) (fun p hp => by cases hp) rfl
  rw [hl] at this
  exact this


theorem calm_value {R : Act → Prop} {a : Act} {o : Oper} {rest : List Oper} {i : Nat} {v : Value} (hi : i ∉ nw) (ht : i ∉ tw) (hw : Region.wanted o (yielded ops a.tmps) = true) (h1 : ∀ σ w, S σ w → (execOp a.eval o).run P w = .ok (.value v) w) (h : calm P ops S nw tw R (i + 1) rest (a.put o.dst v)) : calm P ops S nw tw R i (o :: rest) a :=
  calm_step v hi hw (fun σ w hS _ K Q hK => by unfold Oper.wp; rw [h1 σ w hS]; exact hK w (by rw [trk, if_neg ht]; exact hS)) h
end
end Go.Proofs.Ytljejkdkjnbmhaa.Trk
/- A call that changes what there is, in a region that draws its order. -/
namespace Go.Proofs.Ytljejkdkjnbmhaa

section
variable {P : Program} {ops : Array Oper} {S : Sig → World → Prop} {nw tw : List Nat} {R : Act → Prop} {a : Act} {o : Oper} {rest : List Oper} {i : Nat}
/-- A call whose value is known, of which S is told. -/
theorem kcalm_call {v : Value} {f : FuncId} {args : Array Value} (hi : i ∉ nw) (hit : i ∈ tw) (hw : Region.wanted o (yielded ops a.tmps) = true) (hr : ∀ w, (execOp a.eval o).run P w = .ok (.enter f args) w)
    (hc : ∀ σ w, S σ w → σ i = none → Calls P f args w fun e w' => e = .returned v ∧ S (σ.upd i v) w') (h : Trk.calm P ops S nw tw R (i + 1) rest (a.put o.dst v)) : Trk.calm P ops S nw tw R i (o :: rest) a :=
  Trk.calm_step v hi hw (fun σ w hS hf K Q hK => by
    unfold Oper.wp
    rw [hr w]
    refine (hc σ w hS (hf hit)).mono ?_
    rintro e w' ⟨rfl, hS'⟩
    exact hK w' (by rw [Trk.trk, if_pos hit]; exact hS')) h
end
section
variable {P : Program} {ops : Array Oper} {S : Sig → World → Prop} {nw : List Nat} {R : Act → Prop} {a : Act} {o : Oper} {rest : List Oper} {i : Nat}
theorem ncalm_call {f : FuncId} {args : Array Value} (hi : i ∈ nw) (hr : ∀ w, (execOp a.eval o).run P w = .ok (.enter f args) w)
    (hc : ∀ σ w, S σ w → Calls P f args w fun e w' => ∃ v, e = .returned v ∧ S (σ.upd i v) w') (h : calm P ops S nw R (i + 1) rest a) : calm P ops S nw R i (o :: rest) a :=
  calm_new hi (fun σ w hS K Q hK => by
    unfold Oper.wp
    rw [hr w]
    refine (hc σ w hS).mono ?_
    rintro e w' ⟨v, rfl, hS'⟩
    exact hK v w' hS') h
end
end Go.Proofs.Ytljejkdkjnbmhaa
/- slices.Repeat: the walks of the product of two words, the first 1. -/
namespace Go.Proofs.Ytljejkdkjnbmhaa
open Go.RowKit

theorem u64_mask (k : Nat) (h : k ≤ 1000000) : bits .and .u64 (k : Int) 4294967295 = (k : Int) := by
  have key : IntKind.u64.wrap ((BitVec.ofInt 64 (k : Int) &&& BitVec.ofInt 64 ((4294967295 : Nat) : Int)).toNat : Int) = (k : Int) := by
    rw [BitVec.ofInt_natCast, BitVec.ofInt_natCast, BitVec.toNat_and, BitVec.toNat_ofNat, BitVec.toNat_ofNat, Nat.mod_eq_of_lt (by omega), Nat.mod_eq_of_lt (by omega)]
    have := Nat.and_two_pow_sub_one_eq_mod k 32
    rw [show 2 ^ 32 - 1 = 4294967295 by decide] at this
    rw [this, Nat.mod_eq_of_lt (by omega)]
    exact IntWalk.u64_in _ ⟨by omega, by omega⟩
  exact key
set_option maxRecDepth 100000 in
theorem mul64_any (k : Nat) (h : k ≤ 1000000) (w : World) :
    Calls Try.prog 78 #[.int .u64 1, .int .u64 k] w (Ret fun r w' => r = .tuple #[.int .u64 0, .int .u64 k] ∧ Own w w' []) := by
  have H := Own.start w
  have h1 := u64_mask k h
  have h2 : bits .and .u64 1 4294967295 = 1 := by decide
  have h3 : (k : Int) / 4294967296 = 0 := by omega
  go_enter Try.func78, Try.ntmps78
  go_wp2_with fail
  go_ret2
  exact ⟨_, rfl, rfl, H⟩
theorem mul_any (k : Nat) (h : k ≤ 1000000) (w : World) :
    Calls Try.prog 64 #[.int .u64 1, .int .u64 k] w (Ret fun r w' => r = .tuple #[.int .u64 0, .int .u64 k] ∧ Own w w' []) := by
  have H := Own.start w
  have h2 := mul64_any k h
  go_enter Try.func64, Try.ntmps64
  go_wp2_with fail
  refine (h2 _).mono ?_
  rintro e w2 ⟨_, rfl, rfl, H2⟩
  have H := H.join H2
  go_wp2_with fail
  go_ret2
  exact ⟨_, rfl, rfl, H⟩
end Go.Proofs.Ytljejkdkjnbmhaa
/- copy into a row of the call's own; slices.Repeat of one int. -/
namespace Go.Proofs.Ytljejkdkjnbmhaa
open Go.RowKit

section
variable {w0 w w' : World} {ps : List Piece} {e : TypeId} {n : Nat} {xs : List Value}
variable {P : Program} {ops : Array Oper} {rest : List Oper} {o : Oper} {a : Act} {Q : Exit → Act → World → Prop}
theorem wpList_copy_slc (hgd : o.guard = none) (d s : Operand) (dT sT : TypeId) (ho : o.op = .call { callee := .builtin .copy, args := #[d, s], argTypes := #[dT, sT] })
    (hu : P.underlying dT = some (.slice e)) (hsz : (P.info? e).map (·.size) = some 1) {g c : Nat} (H : Own w0 w (slc e 1 (.slice (some ⟨g, 0, none⟩) n c) n xs :: ps))
    (dp sp : Option Addr) (dLen dCap sLen sCap : Nat) (hd : a.eval d = .slice dp dLen dCap) (hs : a.eval s = .slice sp sLen sCap)
    (off m : Nat) (cs : List Value) (hm : cs.length = m) (hn : m = Nat.min sLen dLen) (hpos : 0 < m → dp = some ⟨g, off, none⟩ ∧ ∃ ad, sp = some ad ∧ ∀ j v, cs[j]? = some v → w.cell? (ad.add j) = some v)
    (hfit : off + m ≤ n) (h1 : ∀ v ∈ cs, v.oneCell' = true)
    (h : ∀ w', Own w0 w' (slc e 1 (.slice (some ⟨g, 0, none⟩) n c) n (splice xs off cs) :: ps) → wpList P ops Q rest (a.put o.dst (.int .i64 m)) w') : wpList P ops Q (o :: rest) a w := by
  subst hm
  by_cases h0 : cs.length = 0
  · obtain rfl : cs = [] := List.eq_nil_of_length_eq_zero h0
    refine wpList_copy_nothing hgd d s dT sT ho e hu hsz dp sp dLen dCap sLen sCap hd hs (by simpa using hn.symm) ?_
    exact h w (by simpa [splice] using H)
  · obtain ⟨rfl, ad, rfl, hsrc⟩ := hpos (by omega)
    rcases H.slc_cases with ⟨hv, _⟩ | ⟨g', cap, cur, he, hl, c1, c2, c3, c4, h5⟩
    · cases hv
    · cases he
      refine wpList_copy_own hgd d s dT sT ho e hu hsz g off dLen dCap ad sLen sCap hd hs cur e h5.block.1 cs hn hsrc (by omega) h1 ?_
      refine h _ ((h5.setRow (cur' := (cur.toList.take off ++ (cs ++ cur.toList.drop (off + cs.length))).toArray)).slc_mk ?_ c1 c2 ?_ ?_)
      · rw [length_splice _ _ _ (by omega)]; exact hl
      · simp only [List.size_toArray, List.length_append, List.length_take, List.length_drop, Array.length_toList]; omega
      · have hcl : cur.toList.length = cur.size := by simp
        unfold splice
        rw [← c4, List.toList_toArray, Nat.mul_one, List.take_append, List.take_append, List.take_take, List.drop_take, List.length_take, Nat.min_eq_left (show off ≤ cur.toList.length by omega), List.take_take,
          Nat.min_eq_right (show off ≤ n by omega), List.take_of_length_le (l := cs) (by omega), Nat.min_eq_left (show off ≤ n by omega), show n - off - cs.length = n - (off + cs.length) by omega]
end

theorem rep_splice (a : Int) {k n m : Nat} (h : n + m ≤ k) : splice (nums (List.replicate n a ++ List.replicate (k - n) 0)) n (nums (List.replicate m a)) = nums (List.replicate (n + m) a ++ List.replicate (k - (n + m)) 0) := by
  unfold splice nums
  rw [List.map_append, List.map_append, List.take_left' (by simp), List.drop_append, List.drop_eq_nil_of_le (by simp), List.nil_append]
  simp only [List.map_replicate, List.length_replicate, List.drop_replicate]
  rw [← List.append_assoc, List.replicate_append_replicate, show k - n - (n + m - n) = k - (n + m) by omega]

set_option maxRecDepth 100000 in
set_option maxHeartbeats 1600000 in
theorem repeat_any {w : World} {v : Value} {a : Int} (k : Nat) (hr : Rd w 1 v 1 (nums [a])) (hk : k ≤ 1000000) :
    Calls Try.prog 47 #[v, .int .i64 k] w (Ret fun r w' => Own w w' [slc 3 1 r k (nums (List.replicate k a))]) := by
  have H := Own.start w
  obtain ⟨b, o, c, rfl, hc1, hc2⟩ := hr.some (by simp [nums])
  have c0 := hr.cell (u := .int .i64 a) (j := 0) rfl
  have HC0 := Lib.hid c0
  clear hr c0
  have hmul := mul_any k hk
  have HM := Lib.hid hmul
  clear hmul
  have hkI : (k : Int) ≤ 9223372036854775807 := by omega
  have hkw : IntKind.u64.wrap (k : Int) = (k : Int) := IntWalk.u64_in _ ⟨by omega, by omega⟩
  have hkw2 : IntKind.i64.wrap (k : Int) = (k : Int) := IntWalk.i64_in _ ⟨by omega, by omega⟩
  have hmk : ∀ w : World, (Instr.makeSlice 30 (.int .i64 k) (.int .i64 k)).run Try.prog w = .ok (.slice (some ⟨w.heap.size, 0, none⟩) k k) (w.alloc (.cells (madeCells #[.int .i64 0] k) 3)) := run_make_row' _ _ _ 8 Try.underlying30 intInfo rfl .i64 .i64 k (by omega) (by omega)
  go_enter Try.func47, Try.ntmps47
  go_wp2_with fail
  refine (HM.out _).mono ?_
  rintro e w2 ⟨_, rfl, rfl, H2⟩
  have H := H.join H2
  clear H2
  go_upto_region 7 with (fail)
  have h1 := H.alloc (.cells (madeCells #[.int .i64 0] k) 3)
  have H : Own w (w2.alloc (.cells (madeCells #[.int .i64 0] k) 3)) [slc 3 1 (.slice (some ⟨w2.heap.size, 0, none⟩) k k) k (nums (List.replicate 0 a ++ List.replicate (k - 0) 0))] :=
    h1.slc_mk (by simp [nums]) (Nat.le_refl _) (by simp [maxLen]; omega) (by simp [size_madeCells]) (by rw [toList_madeCells_one]; simp [nums])
  have c0 := (show (w2.alloc (.cells (madeCells #[.int .i64 0] k) 3)).cell? ⟨b, o + 0, none⟩ = some (.int .i64 a) by rw [H.oldCell (World.block_lt_of_cell? _ _ HC0.out)]; exact HC0.out)
  clear h1
  generalize w2.alloc (.cells (madeCells #[.int .i64 0] k) 3) = w3 at *
  obtain ⟨g, hg⟩ : ∃ g, w2.heap.size = g := ⟨_, rfl⟩
  rw [hg] at H ⊢
  clear hg hmk HM
  have hsrc : ∀ j v, (nums (List.replicate (min k 1) a))[j]? = some v → w3.cell? ((⟨b, o, none⟩ : Addr).add j) = some v := fun j v hj => by
    have hlt := (List.getElem?_eq_some_iff.1 hj).1
    rw [nums_length, List.length_replicate] at hlt
    have : j = 0 := by omega
    subst this
    rw [Addr.add_lit, c0]
    have hk1 : min k 1 = 1 := by omega
    rw [hk1] at hj
    exact hj
  obtain ⟨m1, hm1⟩ : ∃ m1, Hid (min k 1 = m1) := ⟨_, rfl⟩
  have hmin : m1 = Nat.min 1 k := by rw [← hm1.out]; show min k 1 = min 1 k; omega
  rw [hm1.out] at hsrc
  have HS := Lib.hid hsrc
  have HMIN := Lib.hid hmin
  have hm1k : m1 ≤ k := by rw [← hm1.out]; omega
  have hm10 : 1 ≤ k → 1 ≤ m1 := fun h => by rw [← hm1.out]; omega
  have HP := Lib.hid hm10
  have HONE : Hid (∀ m : Nat, ∀ v ∈ nums (List.replicate m a), v.oneCell' = true) := Lib.hid (fun m v hv => by
    unfold nums at hv; obtain ⟨x, _, rfl⟩ := List.mem_map.1 hv; rfl)
  clear c0 hsrc hmin hm10
  go_wp2_with (refine wpList_copy_slc rfl _ _ _ _ rfl Try.underlying30 (by kernel_rfl) H _ _ _ _ _ _ rfl rfl 0 m1 (nums (List.replicate m1 a)) (by simp [nums]) HMIN.out (fun h => ⟨rfl, _, rfl, HS.out⟩) (by omega) (HONE.out m1) ?_; clear H; intro w4 H; rw [rep_splice a (by omega), Nat.zero_add] at H)
  go_loopw [8] (fun s8 wx => ∃ n : Nat, s8 = .int .i64 n ∧ n ≤ k ∧ (1 ≤ k → 1 ≤ n) ∧ Own w wx [slc 3 1 (.slice (some ⟨g, 0, none⟩) k k) k (nums (List.replicate n a ++ List.replicate (k - n) 0))]) (fun s8 _ => k - (intOf s8).toNat)
  case atStart => exact ⟨m1, by go_num, hm1k, HP.out, H⟩
  case round =>
    clear H
    obtain ⟨n, rfl, hn, hn1, H⟩ := hrel
    by_cases hlt : n < k
    · have hI : (n : Int) < (k : Int) := by omega
      have hn1 := hn1 (by omega)
      obtain ⟨m, hm⟩ : ∃ m, Hid (min n (k - n) = m) := ⟨_, rfl⟩
      have hm1 : 1 ≤ m := by rw [← hm.out]; omega
      have hmk : n + m ≤ k := by rw [← hm.out]; omega
      have hmn : m ≤ n := by rw [← hm.out]; omega
      have hmin : m = Nat.min n (k - n) := hm.out.symm
      have HMIN2 := Lib.hid hmin
      have hsub : ((k : Int) - (n : Int)) = ((k - n : Nat) : Int) := by omega
      clear hmin
      have hcut : (n : Int) ≤ (k : Int) := by omega
      have hn0 : n ≠ 0 := by omega
      have hkn : k ≠ n := by omega
      go_upto_region 9 with (fail)
      refine wp_region_pres (fun σ w1 => Own w w1 [slc 3 1 (.slice (some ⟨g, 0, none⟩) k k) k (nums (List.replicate n a ++ List.replicate (k - n) 0))]) 7 [] [0] (by kernel_rfl) (by kernel_rfl) (by kernel_rfl) (by kernel_rfl) (fun _ _ d _ _ h => by cases d <;> exact h) ⟨_, _, rfl, fun w => (by first | rfl | (go_simp; rfl)), rfl⟩ H.drew ?_
      simp only [List.take_succ_cons, List.take_zero, List.drop_succ_cons, List.drop_zero]
      repeat
        first
        | (refine calm_value (v := ?_) (by decide) rfl (fun σ w1 hS => ?_) ?_
           rotate_left
           · skip
             first | (go_simp; rfl) | rfl
           simp only [Act.put, List.setIfInBounds_toArray, List.set_cons_zero, List.set_cons_succ])
        | (refine calm_skip (by decide) rfl ?_
           simp only [Act.put, List.setIfInBounds_toArray, List.set_cons_zero, List.set_cons_succ])
      refine calm_nil ?_
      intro σ wd hσ HD
      clear H
      simp only [putNew, List.foldl_nil]
      have hsrc : ∀ j v, (nums (List.replicate m a))[j]? = some v → wd.cell? ((⟨g, 0, none⟩ : Addr).add j) = some v := fun j v hj => by
        have hlt := (List.getElem?_eq_some_iff.1 hj).1
        rw [nums_length, List.length_replicate] at hlt
        rw [Addr.add_lit]
        refine HD.rd.cell ?_
        unfold nums at hj ⊢
        rw [List.map_append, List.getElem?_append_left (by simp; omega), ← hj]
        simp only [List.map_replicate, List.getElem?_replicate]
        rw [if_pos (by omega), if_pos hlt]
      have HS2 := Lib.hid hsrc
      have hnm : IntKind.i64.wrap ((n : Int) + (m : Int)) = ((n + m : Nat) : Int) := by rw [Int.natCast_add]; exact IntWalk.i64_in _ ⟨by omega, by omega⟩
      clear hsrc
      go_wp2_with (refine wpList_copy_slc rfl _ _ _ _ rfl Try.underlying30 (by kernel_rfl) HD _ _ _ _ _ _ rfl rfl n m (nums (List.replicate m a)) (by simp [nums]) HMIN2.out (fun h => ⟨rfl, _, rfl, HS2.out⟩) (by omega) (HONE.out m) ?_; clear HD; intro w6 H; rw [rep_splice a (by omega)] at H)
      go_roundw
      case rel => exact ⟨n + m, by go_num, by omega, fun _ => by omega, H⟩
      case measure => simp [intOf]; omega
    · have hI : ¬ (n : Int) < (k : Int) := by omega
      obtain rfl : n = k := by omega
      rw [Nat.sub_self, List.replicate_zero, List.append_nil] at H
      go_wp2_with fail
      go_ret
      exact ⟨_, rfl, H⟩
end Go.Proofs.Ytljejkdkjnbmhaa
/- slices.Grow of nil, slices.Concat: the walks. -/
namespace Go.Proofs.Ytljejkdkjnbmhaa
open Go.RowKit

set_option maxRecDepth 100000 in
theorem grow_any (n : Nat) (hn : n ≤ 1000000) (w : World) :
    Calls Try.prog 63 #[.slice none 0 0, .int .i64 n] w (Ret fun r w' => Own w w' [slc 3 1 r 0 []]) := by
  have H := Own.start w
  by_cases h0 : n = 0
  · subst h0
    have H := H.nil 3 1
    go_enter Try.func63, Try.ntmps63
    go_wp2_with fail
    go_ret
    exact ⟨_, rfl, H⟩
  · have hI : (n : Int) > 0 := by omega
    obtain ⟨i, hi, hz, hsize, hby⟩ := info_parts intInfo
    have hap : ∀ (w : World) (ty : TypeId) (t2 : TypeId), Try.prog.underlying t2 = some (.int .i64) → (Builtin.append_ #[30, t2] ty #[.slice none 0 0, .int .i64 n]).run Try.prog w = .ok (.slice (some ⟨w.heap.size, 0, none⟩) n (grownCap w n 0 3)) (w.drew.alloc (.cells (Builtin.zeroCells (Value.int .i64 0).cells n ++ Builtin.zeroCells (Value.int .i64 0).cells (grownCap w n 0 3 - n)) 3)) := fun w ty t2 ht2 =>
      Lib.run_append_nil_zeros w 30 t2 ty 3 i (.int .i64 0) .i64 .i64 Try.underlying30 ht2 hi hz n (by omega) (by omega) (by omega) (by rw [hby]; omega)
    have HA := Lib.hid hap
    have hge := grownCap_ge w n 0 3
    have hle := grownCap_le_maxLen w n 0 3 (by simp [maxLen]; omega)
    have H2 : Own w (w.drew.alloc (.cells (Builtin.zeroCells (Value.int .i64 0).cells n ++ Builtin.zeroCells (Value.int .i64 0).cells (grownCap w n 0 3 - n)) 3)) [slc 3 1 (.slice (some ⟨w.heap.size, 0, none⟩) 0 (grownCap w n 0 3)) 0 []] := by
      have h1 := H.drew.alloc (.cells (Builtin.zeroCells (Value.int .i64 0).cells n ++ Builtin.zeroCells (Value.int .i64 0).cells (grownCap w n 0 3 - n)) 3)
      exact h1.slc_mk (by simp) (Nat.zero_le _) hle (by simp [size_zeroCells, Value.cells]; omega) (by simp)
    clear hap
    go_enter Try.func63, Try.ntmps63
    go_wp2_with (at_builtin; refine Lib.wpList_append_run _ rfl _ _ _ _ rfl _ _ rfl rfl _ _ (HA.out _ _ _ (by kernel_rfl)) ?_; clear H; generalize w.drew.alloc _ = w2 at *; generalize grownCap w n 0 3 = gc at *)
    go_ret
    exact ⟨_, rfl, H2⟩

/-- How many ints the first k lists have. -/
def flatN (Ls : List (List Int)) (k : Nat) : List Int := (Ls.take k).flatten
theorem flatN_succ {Ls : List (List Int)} {k : Nat} {L : List Int} (h : Ls[k]? = some L) : flatN Ls (k + 1) = flatN Ls k ++ L := by
  unfold flatN
  rw [List.take_add_one, h, List.flatten_append]
  simp
theorem flatN_le (Ls : List (List Int)) (k : Nat) : (flatN Ls k).length ≤ Ls.flatten.length := by
  unfold flatN
  conv => rhs; rw [← List.take_append_drop k Ls, List.flatten_append, List.length_append]
  omega
set_option maxRecDepth 100000 in
set_option maxHeartbeats 1600000 in
theorem concat_any {w : World} {v : Value} {m : Nat} (Ls : List (List Int)) (vs : List Value) (hr : Rd w 1 v m vs) (hl : vs.length = m) (hLl : Ls.length = m) (hm : m ≤ 1000)
    (hall : ∀ (k : Nat) (u : Value) (L : List Int), vs[k]? = some u → Ls[k]? = some L → Rd w 1 u L.length (nums L)) (hN : Ls.flatten.length ≤ 100000) :
    Calls Try.prog 46 #[v] w (Ret fun r w' => Own w w' [slc 3 1 r Ls.flatten.length (nums Ls.flatten)]) := by
  have H := Own.start w
  obtain ⟨a, c, rfl, hc1, hc2⟩ := hr.shape
  have HR := Lib.hid hr
  have HALL := Lib.hid hall
  have HL := Lib.hid hl
  have HLL := Lib.hid hLl
  clear hr hall hl hLl
  have hg : ∀ (n : Nat), n ≤ 1000000 → ∀ w, Calls Try.prog 63 #[.slice none 0 0, .int .i64 n] w (Ret fun r w' => Own w w' [slc 3 1 r 0 []]) := fun n hn w => grow_any n hn w
  have HG := Lib.hid hg
  clear hg
  obtain ⟨N, hNN⟩ : ∃ N, Hid (Ls.flatten.length = N) := ⟨_, rfl⟩
  rw [hNN.out] at hN ⊢
  obtain ⟨FL, hFL⟩ : ∃ FL, Hid (Ls.flatten = FL) := ⟨_, rfl⟩
  rw [hFL.out]
  go_enter Try.func46, Try.ntmps46
  go_wp2_with fail
  go_loopw [3, 11] (fun s3 s11 wx => ∃ k q : Nat, s11 = .int .i64 k ∧ k ≤ m ∧ s3 = .int .i64 q ∧ Hid ((flatN Ls k).length = q) ∧ q ≤ 100000 ∧ Own w wx []) (fun _ s11 _ => m - (intOf s11).toNat)
  case atStart => exact ⟨0, 0, by go_num, by omega, by go_num, Lib.hid (by simp [flatN]), by omega, H⟩
  case round =>
    clear H
    obtain ⟨k, q, rfl, hk, rfl, hq, hqN, H⟩ := hrel
    by_cases hlt : k < m
    · have hI : (k : Int) < (m : Int) := by omega
      obtain ⟨u, hu⟩ := get_of_lt (l := vs) (k := k) (by have := HL.out; omega)
      obtain ⟨L, hL⟩ := get_of_lt (l := Ls) (k := k) (by have := HLL.out; omega)
      obtain ⟨b, o, _, he, -⟩ := HR.out.some (by have := HL.out; omega)
      cases he
      have c0 := (HR.out.old H).cell hu
      have hu2 := HALL.out k u L hu hL
      obtain ⟨ua, uc, rfl, huc1, huc2⟩ := hu2.shape
      have hs := flatN_succ hL
      have hle := flatN_le Ls (k + 1)
      rw [hNN.out] at hle
      have hq2 : Hid ((flatN Ls (k + 1)).length = q + L.length) := Lib.hid (by rw [hs, List.length_append, hq.out])
      have hb : q + L.length ≤ 100000 := by have := hq2.out; omega
      obtain ⟨x, hx⟩ : ∃ x, Hid (L.length = x) := ⟨_, rfl⟩
      rw [hx.out] at hb hq2 huc1 c0
      have hw : IntKind.i64.wrap ((q : Int) + (x : Int)) = (q : Int) + (x : Int) := IntWalk.i64_in _ ⟨by omega, by omega⟩
      have hnn : ¬ ((q : Int) + (x : Int) < 0) := by omega
      clear hu hL hu2 hs hle
      go_wp2_with fail
      go_roundw
      case rel => exact ⟨k + 1, q + x, by go_num, by omega, by go_num, hq2, hb, H⟩
      case measure => simp [intOf]; omega
    · have hI : ¬ (k : Int) < (m : Int) := by omega
      go_wp2_with fail
      refine (HG.out q (by omega) _).mono ?_
      rintro e w2 ⟨v6, rfl, H2⟩
      have H := H.join H2
      clear H2
      obtain ⟨a6, c6, rfl, -⟩ := H.rd.shape
      go_wp2_with fail
      go_loopw [6, 27] (fun s6 s27 wx => ∃ k q : Nat, s27 = .int .i64 k ∧ k ≤ m ∧ Hid ((flatN Ls k).length = q) ∧ q ≤ 100000 ∧ Own w wx [slc 3 1 s6 q (nums (flatN Ls k))]) (fun _ s27 _ => m - (intOf s27).toNat)
      case atStart => exact ⟨0, 0, by go_num, by omega, Lib.hid (by simp [flatN]), by omega, H⟩
      case round =>
        clear H hq hqN
        obtain ⟨k, q, rfl, hk, hq, hqN, H⟩ := hrel
        rename_i v6 _
        obtain ⟨a6, c6, rfl, -⟩ := H.rd.shape
        by_cases hlt : k < m
        · have hI : (k : Int) < (m : Int) := by omega
          obtain ⟨u, hu⟩ := get_of_lt (l := vs) (k := k) (by have := HL.out; omega)
          obtain ⟨L, hL⟩ := get_of_lt (l := Ls) (k := k) (by have := HLL.out; omega)
          obtain ⟨b, o, _, he, -⟩ := HR.out.some (by have := HL.out; omega)
          cases he
          have c0 := (HR.out.old H).cell hu
          have hu2 := HALL.out k u L hu hL
          obtain ⟨ua, uc, rfl, huc1, huc2⟩ := hu2.shape
          have hs := flatN_succ hL
          have hle := flatN_le Ls (k + 1)
          rw [hNN.out] at hle
          obtain ⟨x, hx⟩ : ∃ x, Hid (L.length = x) := ⟨_, rfl⟩
          have hq2 : Hid ((flatN Ls (k + 1)).length = q + x) := Lib.hid (by rw [hs, List.length_append, hq.out, hx.out])
          have hb : q + x ≤ 100000 := by have := hq2.out; omega
          have hold := hu2.old H
          rw [hx.out] at huc1 c0 hold
          have HS := Lib.hid (show nums (flatN Ls k) ++ nums L = nums (flatN Ls (k + 1)) by rw [hs]; simp [nums])
          have HO := Lib.hid hold
          have H1 : Hid (∀ v ∈ nums L, v.oneCell' = true) := Lib.hid (fun v hv => by unfold nums at hv; obtain ⟨x, _, rfl⟩ := List.mem_map.1 hv; rfl)
          clear hu hL hu2 hs hle hold
          go_wp2_with (at_builtin; refine wpList_append_sep rfl _ _ rfl Try.underlying30 intInfo rfl (by decide) rfl H HO.out H1.out (by omega) (by omega) ?_; clear H c0; intro v' w' H; rw [HS.out] at H; obtain ⟨a8, c8, rfl, -⟩ := H.rd.shape)
          go_roundw
          case rel => exact ⟨k + 1, q + x, by go_num, by omega, hq2, hb, H⟩
          case measure => simp [intOf]; omega
        · have hI : ¬ (k : Int) < (m : Int) := by omega
          have hfl : flatN Ls k = Ls.flatten := by unfold flatN; rw [List.take_of_length_le (by have := HLL.out; omega)]
          have hqq : q = N := by rw [← hq.out, hfl, hNN.out]
          subst hqq
          rw [hfl, hFL.out] at H
          clear hfl hq
          go_wp2_with fail
          go_ret
          exact ⟨_, rfl, H⟩
end Go.Proofs.Ytljejkdkjnbmhaa
/- As XTrk: of each operation it is told that the tracked ones it waits for were done. No program in sight. (Written by tools/trd.py.) -/
namespace Go.Proofs.Ytljejkdkjnbmhaa.Trd
open Go.RowKit

def trk (tw : List Nat) (i : Nat) (v : Value) (σ : Sig) : Sig := if i ∈ tw then σ.upd i v else σ
def Deps (o : Oper) (k : Nat) : Prop := ∃ e ∈ o.after, Region.binds .any e = true ∧ e.on = k
/-- In every world that meets S the operation yields v, and S holds behind it. -/
def Calm1 (P : Program) (S : Sig → World → Prop) (tw : List Nat) (i : Nat) (o : Oper) (a : Act) (v : Value) : Prop :=
  ∀ σ w, S σ w → (i ∈ tw → σ i = none) → (∀ k ∈ tw, Deps o k → (σ k).isSome = true) → ∀ (K : Act → World → Prop) (Q : Exit → Act → World → Prop), (∀ w', S (trk tw i v σ) w' → K (a.put o.dst v) w') → o.wp P a w K Q

def New1 (P : Program) (S : Sig → World → Prop) (tw : List Nat) (i : Nat) (o : Oper) (a : Act) : Prop :=
  ∀ σ w, S σ w → (∀ k ∈ tw, Deps o k → (σ k).isSome = true) → ∀ (K : Act → World → Prop) (Q : Exit → Act → World → Prop), (∀ v w', S (σ.upd i v) w' → K (a.put o.dst v) w') → o.wp P a w K Q

def calm (P : Program) (ops : Array Oper) (S : Sig → World → Prop) (nw tw : List Nat) (R : Act → Prop) : Nat → List Oper → Act → Prop
  | _, [], a => R a
  | i, o :: rest, a => (i ∈ nw ∧ New1 P S tw i o a ∧ calm P ops S nw tw R (i + 1) rest a) ∨
      (i ∉ nw ∧ Region.wanted o (yielded ops a.tmps) = true ∧ ∃ v, Calm1 P S tw i o a v ∧ calm P ops S nw tw R (i + 1) rest (a.put o.dst v)) ∨
      (i ∉ nw ∧ Region.wanted o (yielded ops a.tmps) = false ∧ calm P ops S nw tw R (i + 1) rest (a.put o.dst undef))

section
variable {P : Program} {ops : Array Oper} {S : Sig → World → Prop} {nw tw : List Nat} {R : Act → Prop} {a : Act} {o : Oper} {rest : List Oper} {i : Nat}
theorem calm_nil (h : R a) : calm P ops S nw tw R i [] a := h
theorem calm_step (v : Value) (hi : i ∉ nw) (hw : Region.wanted o (yielded ops a.tmps) = true)
    (h1 : ∀ σ w, S σ w → (i ∈ tw → σ i = none) → (∀ k ∈ tw, Deps o k → (σ k).isSome = true) → ∀ (K : Act → World → Prop) (Q : Exit → Act → World → Prop), (∀ w', S (trk tw i v σ) w' → K (a.put o.dst v) w') → o.wp P a w K Q) (h : calm P ops S nw tw R (i + 1) rest (a.put o.dst v)) : calm P ops S nw tw R i (o :: rest) a := .inr (.inl ⟨hi, hw, v, h1, h⟩)
end

section
variable {P : Program} {ops : Array Oper} {S : Sig → World → Prop} {nw tw : List Nat}
theorem calm_frames {R : Act → Prop} : ∀ (l : List Oper) (i : Nat) (a : Act), calm P ops S nw tw R i l a →
    ∃ vs : List Value, vs.length = l.length ∧ R (frames ((dets nw i l).zip vs) a) ∧
      ∀ k o, l[k]? = some o → ∃ v, vs[k]? = some v ∧
        ((i + k ∈ nw ∧ New1 P S tw (i + k) o (frames (((dets nw i l).zip vs).take k) a)) ∨
         (i + k ∉ nw ∧ Region.wanted o (yielded ops (frames (((dets nw i l).zip vs).take k) a).tmps) = true ∧ Calm1 P S tw (i + k) o (frames (((dets nw i l).zip vs).take k) a) v) ∨
         (i + k ∉ nw ∧ Region.wanted o (yielded ops (frames (((dets nw i l).zip vs).take k) a).tmps) = false ∧ v = undef)) := by
  intro l
  induction l with
  | nil => intro i a h; exact ⟨[], rfl, h, fun k o hk => by simp at hk⟩
  | cons o l ih =>
    intro i a h
    have step : ∀ (v : Value) (a' : Act), a' = a.put (if i ∈ nw then none else o.dst) v → calm P ops S nw tw R (i + 1) l a' →
        ((i ∈ nw ∧ New1 P S tw i o a) ∨ (i ∉ nw ∧ Region.wanted o (yielded ops a.tmps) = true ∧ Calm1 P S tw i o a v) ∨ (i ∉ nw ∧ Region.wanted o (yielded ops a.tmps) = false ∧ v = undef)) → ∃ vs : List Value, vs.length = (o :: l).length ∧ R (frames ((dets nw i (o :: l)).zip vs) a) ∧
      ∀ k o', (o :: l)[k]? = some o' → ∃ v, vs[k]? = some v ∧
        ((i + k ∈ nw ∧ New1 P S tw (i + k) o' (frames (((dets nw i (o :: l)).zip vs).take k) a)) ∨
         (i + k ∉ nw ∧ Region.wanted o' (yielded ops (frames (((dets nw i (o :: l)).zip vs).take k) a).tmps) = true ∧ Calm1 P S tw (i + k) o' (frames (((dets nw i (o :: l)).zip vs).take k) a) v) ∨
         (i + k ∉ nw ∧ Region.wanted o' (yielded ops (frames (((dets nw i (o :: l)).zip vs).take k) a).tmps) = false ∧ v = undef)) := by
      intro v a' ha hc h0
      obtain ⟨vs, hl, hR, hk⟩ := ih _ _ hc
      refine ⟨v :: vs, by simp [hl], by rw [ha] at hR; exact hR, fun k o' hk' => ?_⟩
      cases k with
      | zero => simp at hk'; subst hk'; exact ⟨v, rfl, h0⟩
      | succ k =>
        have := hk k o' (by simpa using hk')
        rw [ha, show i + 1 + k = i + (k + 1) by omega] at this
        exact this
    rcases h with ⟨hi, h1, h2⟩ | ⟨hi, hw, v, h1, h2⟩ | ⟨hi, hw, h2⟩
    · exact step undef a (by rw [if_pos hi]; rfl) h2 (.inl ⟨hi, h1⟩)
    · exact step v _ (by rw [if_neg hi]) h2 (.inr (.inl ⟨hi, hw, h1⟩))
    · exact step undef _ (by rw [if_neg hi]) h2 (.inr (.inr ⟨hi, hw, rfl⟩))

theorem Calm1.at {tw : List Nat} {i : Nat} {o : Oper} {a a' : Act} {v : Value} (h : Calm1 P S tw i o a v) (he : execOp a'.eval o = execOp a.eval o) (hs : a.tmps.size = a'.tmps.size) {σ : Sig} {w : World} (hw : S σ w) (hfr : i ∈ tw → σ i = none) (hdp : ∀ k ∈ tw, Deps o k → (σ k).isSome = true)
    (K : Act → World → Prop) (Q : Exit → Act → World → Prop) (hK : ∀ w', S (trk tw i v σ) w' → K (a'.put o.dst v) w') : o.wp P a' w K Q := by
  have h1 := h σ w hw hfr hdp (fun a1 w1 => a1 = a.put o.dst v ∧ S (trk tw i v σ) w1) (fun _ _ _ => False) (fun w' hw' => ⟨rfl, hw'⟩)
  unfold Oper.wp at *
  rw [he]
  generalize (execOp a.eval o).run P w = r at *
  cases r with
  | ok n w' =>
    cases n <;> simp only [Oper.upon] at h1 ⊢
    case value u => rw [put_eq hs h1.1]; exact hK _ h1.2
    case skip => rw [put_eq hs h1.1]; exact hK _ h1.2
    case defer d =>
      have := congrArg (fun x => x.defers.length) h1.1
      cases hd : o.dst <;> simp [Act.put, hd] at this
    case enter f args =>
      refine Calls.mono h1 fun e w'' he => ?_
      cases e with
      | returned u =>
        show K (a'.put o.dst u) w''
        rw [put_eq hs he.1]; exact hK _ he.2
      | panicked c => exact he.elim
      | outgrown => obtain ⟨_, _, hh⟩ := he; exact hh.elim
    case row row args => exact Rows.mono h1 fun u w'' he => by rw [put_eq hs he.1]; exact hK _ he.2
  | halt x w' => cases x <;> simp only [Oper.upon] at h1 ⊢
theorem New1.at {tw : List Nat} {i : Nat} {o : Oper} {a a' : Act} (h : New1 P S tw i o a) (he : execOp a'.eval o = execOp a.eval o) (hs : a.tmps.size = a'.tmps.size) {σ : Sig} {w : World} (hw : S σ w) (hdp : ∀ k ∈ tw, Deps o k → (σ k).isSome = true)
    (K : Act → World → Prop) (Q : Exit → Act → World → Prop) (hK : ∀ v w', S (σ.upd i v) w' → K (a'.put o.dst v) w') : o.wp P a' w K Q := by
  have h1 := h σ w hw hdp (fun a1 w1 => ∃ v, a1 = a.put o.dst v ∧ S (σ.upd i v) w1) (fun _ _ _ => False) (fun v w' hw' => ⟨v, rfl, hw'⟩)
  unfold Oper.wp at *
  rw [he]
  generalize (execOp a.eval o).run P w = r at *
  cases r with
  | ok n w' =>
    cases n <;> simp only [Oper.upon] at h1 ⊢
    case value u => obtain ⟨v, e1, e2⟩ := h1; rw [put_eq hs e1]; exact hK _ _ e2
    case skip => obtain ⟨v, e1, e2⟩ := h1; rw [put_eq hs e1]; exact hK _ _ e2
    case defer d =>
      obtain ⟨v, e1, e2⟩ := h1
      have := congrArg (fun x => x.defers.length) e1
      cases hd : o.dst <;> simp [Act.put, hd] at this
    case enter f args =>
      refine Calls.mono h1 fun e w'' he => ?_
      cases e with
      | returned u =>
        show K (a'.put o.dst u) w''
        obtain ⟨v, e1, e2⟩ := he
        rw [put_eq hs e1]; exact hK _ _ e2
      | panicked c => exact he.elim
      | outgrown => obtain ⟨_, _, hh⟩ := he; exact hh.elim
    case row row args => exact Rows.mono h1 fun u w'' he => by obtain ⟨v, e1, e2⟩ := he; rw [put_eq hs e1]; exact hK _ _ e2
  | halt x w' => cases x <;> simp only [Oper.upon] at h1 ⊢
theorem wpAny_new {Q : Exit → Act → World → Prop} {a a0 : Act} {w : World} {l : List Oper} (S : Sig → World → Prop) (n : Nat) (nw tw : List Nat) (pre : List Nat) (htw : ∀ k ∈ tw, k < n ∧ k ∉ nw ∧ k ∉ pre ∧ ∀ o, l[k]? = some o → o.guard = none) (hpd0 : ∀ p ∈ pre, ∀ o, l[p]? = some o → ∀ k ∈ tw, ¬ Deps o k) (hok : calmOk l.toArray n nw pre = true) (hS : S Sig.no w)
    (h : calm P l.toArray S nw tw (fun a' => ∀ σ w', (∀ k ∈ nw, (σ k).isSome = true) → (∀ k ∈ tw, (σ k).isSome = true) → S σ w' → wpList P l.toArray Q (l.drop n) (putNew l nw σ a') w') 0 (l.take n) a)
    (listed0 : Array Bool) (hs0 : listed0.size = l.length) (hl0 : ∀ k, k < l.length → listed0.getD k true = true → k ∈ pre) (hp0 : ∀ p ∈ pre, listed0.getD p true = true)
    (ha0 : PreRun P l pre a a0) :
    wpAny P .any l.toArray Q (left listed0) listed0 a0 w := by
  have g := good_of hok
  have hnl : n ≤ l.length := by simpa using g.le
  obtain ⟨vs, hvl, hR, hk⟩ := calm_frames _ _ _ h
  have hvn : vs.length = n := by simp [hvl, hnl]
  obtain ⟨D, hD⟩ : ∃ D, (dets nw 0 (l.take n)).zip vs = D := ⟨_, rfl⟩
  rw [hD] at hR hk
  simp only [Nat.zero_add] at hk
  have hDl : D.length = n := by rw [← hD]; simp [dets_length, hvn, hnl]
  have hget : ∀ k, k < n → (dets nw 0 (l.take n))[k]? = (l[k]?).map fun o => if k ∈ nw then none else o.dst := by
    intro k hk
    rw [dets_get]
    simp [hk]
  -- the k-th of D
  have hDk : ∀ (k : Nat) (o : Oper) (v : Value), k < n → k ∉ nw → l[k]? = some o → vs[k]? = some v → D[k]? = some (o.dst, v) := by
    intro k o v hkn hnk ho hv
    rw [← hD, List.getElem?_zip_eq_some]
    refine ⟨?_, hv⟩
    rw [hget k hkn, ho]
    simp [hnk]
  have hDd : ∀ (k : Nat) (t : Tmp) (v : Value), D[k]? = some (some t, v) → k < n ∧ k ∉ nw ∧ ∃ o, l[k]? = some o ∧ o.dst = some t := by
    intro k t v hk
    have hkn : k < n := by rw [← hDl]; exact (List.getElem?_eq_some_iff.1 hk).1
    rw [← hD, List.getElem?_zip_eq_some] at hk
    obtain ⟨h1, _⟩ := hk
    rw [hget k hkn, Option.map_eq_some_iff] at h1
    obtain ⟨o, ho, hd⟩ := h1
    by_cases hnk : k ∈ nw
    · simp [hnk] at hd
    · rw [if_neg hnk] at hd
      exact ⟨hkn, hnk, o, ho, hd⟩
  have huniq : ∀ (j k : Nat) (t : Tmp) (u v : Value), k ≠ j → D[k]? = some (some t, u) → D[j]? ≠ some (some t, v) := by
    intro j k t u v hkj h1 h2
    obtain ⟨hkn, _, ok, hok', hdk⟩ := hDd k _ u h1
    obtain ⟨hjn, _, oj, hoj, hdj⟩ := hDd j _ v h2
    exact (g.pair k j ok oj t hkn hjn hkj (by simpa using hok') (by simpa using hoj) hdk).1 hdj
  -- .. with the new ones' values
  obtain ⟨F, hF⟩ : ∃ F : Sig → Nat → Option (Option Tmp × Value), ∀ σ k, F σ k = if k ∈ nw then (l[k]?).map fun o => (o.dst, (σ k).getD undef) else D[k]? := ⟨_, fun _ _ => rfl⟩
  have hFd : ∀ (σ : Sig) (k : Nat) (t : Tmp) (v : Value), F σ k = some (some t, v) → k < n ∧ ∃ o, l[k]? = some o ∧ o.dst = some t := by
    intro σ k t v hk
    rw [hF] at hk
    by_cases hnk : k ∈ nw
    · rw [if_pos hnk, Option.map_eq_some_iff] at hk
      obtain ⟨o, ho, hd⟩ := hk
      exact ⟨g.newLt k hnk, o, ho, by simp at hd; exact hd.1⟩
    · rw [if_neg hnk] at hk
      obtain ⟨h1, _, h3⟩ := hDd k t v hk
      exact ⟨h1, h3⟩
  have hFu : ∀ (σ : Sig) (j k : Nat) (t : Tmp) (u v : Value), k ≠ j → F σ k = some (some t, u) → F σ j ≠ some (some t, v) := by
    intro σ j k t u v hkj h1 h2
    obtain ⟨hkn, ok, hok', hdk⟩ := hFd σ k _ u h1
    obtain ⟨hjn, oj, hoj, hdj⟩ := hFd σ j _ v h2
    exact (g.pair k j ok oj t hkn hjn hkj (by simpa using hok') (by simpa using hoj) hdk).1 hdj
  have hend : ∀ (E : Nat → Prop) (a' : Act) (σ : Sig), (∀ k, k < n → E k) → Agree (F σ) E a a' → a' = putNew l nw σ (frames D a) := by
    intro E a' σ hall hA
    have hB := agree_frames D huniq a n (by omega)
    rw [List.take_of_length_le (by omega)] at hB
    obtain ⟨k1, k2⟩ := putNew_keeps l σ nw (frames D a)
    refine act_ext ?_ (hA.defers.trans (hB.defers.symm.trans k1.symm))
    apply Array.ext_getElem?
    intro t
    by_cases hts : t < a.tmps.size
    · by_cases hw : ∃ (k : Nat) (v : Value), F σ k = some (some t, v)
      · obtain ⟨k, v, hkv⟩ := hw
        obtain ⟨hkn, o, ho, hd⟩ := hFd σ k _ v hkv
        rw [hA.wrote k t v (hall k hkn) hkv hts]
        have hkv' := hkv
        rw [hF] at hkv
        by_cases hnk : k ∈ nw
        · rw [if_pos hnk, ho] at hkv
          simp at hkv
          rw [putNew_new l σ t k nw _ hnk (by simp [ho, hd]) (fun j hj hdj => ?_) (by rw [hB.size]; exact hts), hkv.2]
          by_cases hjk : j = k
          · exact hjk
          · exfalso
            cases hlj : l[j]? with
            | none => rw [hlj] at hdj; cases hdj
            | some oj =>
              rw [hlj] at hdj
              refine hFu σ j k t v ((σ j).getD undef) (Ne.symm hjk) hkv' ?_
              rw [hF, if_pos hj, hlj]
              simp at hdj
              simp [hdj]
        · rw [if_neg hnk] at hkv
          rw [putNew_old l σ t nw _ fun j hj hdj => ?_, hB.wrote k t v hkn hkv hts]
          cases hlj : l[j]? with
          | none => rw [hlj] at hdj; cases hdj
          | some oj =>
            rw [hlj] at hdj
            refine hFu σ j k t v ((σ j).getD undef) (fun e => hnk (e ▸ hj)) hkv' ?_
            rw [hF, if_pos hj, hlj]
            simp at hdj
            simp [hdj]
      · rw [hA.kept t fun k v _ hkv => hw ⟨k, v, hkv⟩, putNew_old l σ t nw _ fun j hj hdj => ?_, hB.kept t fun k v _ hkv => ?_]
        · obtain ⟨_, hnk, _⟩ := hDd k t v hkv
          exact hw ⟨k, v, by rw [hF, if_neg hnk]; exact hkv⟩
        · cases hlj : l[j]? with
          | none => rw [hlj] at hdj; cases hdj
          | some oj =>
            rw [hlj] at hdj
            refine hw ⟨j, (σ j).getD undef, ?_⟩
            rw [hF, if_pos hj, hlj]
            simp at hdj
            simp [hdj]
    · rw [Array.getElem?_eq_none (show a'.tmps.size ≤ t from by rw [hA.size]; exact Nat.le_of_not_lt hts), Array.getElem?_eq_none (show (putNew l nw σ (frames D a)).tmps.size ≤ t from by rw [k2, hB.size]; exact Nat.le_of_not_lt hts)]
  have main : ∀ (fuel : Nat) (listed : Array Bool) (a' : Act) (w' : World) (σ : Sig), listed.size = l.length → left listed = fuel → (∀ j, n ≤ j → j < l.length → listed.getD j true = false) →
      (∀ k o, k < l.length → listed.getD k true = true → l[k]? = some o → ∀ e ∈ o.after, Region.binds .any e = true → listed.getD e.on false = true) →
      (∀ k ∈ nw, listed.getD k true = true → (σ k).isSome = true) → (∀ k ∈ tw, (listed.getD k true = true → (σ k).isSome = true) ∧ (listed.getD k true = false → σ k = none)) → (∀ p ∈ pre, listed.getD p true = true) →
      Agree (F σ) (fun k => k < n ∧ listed.getD k true = true) a a' → S σ w' → wpAny P .any l.toArray Q fuel listed a' w' := by
    intro fuel
    induction fuel with
    | zero =>
      intro listed a' w' σ hs hl ht hc hσ hτ hP hA hSw
      have hall : ∀ k, k < l.length → listed.getD k true = true := fun k hk => by
        cases hkk : listed.getD k true with
        | true => rfl
        | false => have := left_pos (j := k) (by omega) hkk; omega
      have hn : n = l.length := by
        rcases Nat.lt_or_ge n l.length with h | h
        · have := hall n h; rw [ht n (Nat.le_refl _) h] at this; cases this
        · omega
      refine tail_any g 0 n listed a' w' hs (Nat.le_refl _) (fun k _ hk => hall k hk) ht hl ?_
      rw [hend _ a' σ (fun k hk => ⟨hk, hall k (by omega)⟩) hA]
      exact hR σ w' (fun k hk => hσ k hk (hall k (by have := g.newLt k hk; omega))) (fun k hk => (hτ k hk).1 (hall k (by have := (htw k hk).1; omega))) hSw
    | succ fuel ih =>
      intro listed a' w' σ hs hl ht hc hσ hτ hP hA hSw
      by_cases hpre : ∀ k, k < n → listed.getD k true = true
      · refine tail_any g (fuel + 1) n listed a' w' hs (Nat.le_refl _) (fun k hk _ => hpre k hk) ht hl ?_
        rw [hend _ a' σ (fun k hk => ⟨hk, hpre k hk⟩) hA]
        exact hR σ w' (fun k hk => hσ k hk (hpre k (g.newLt k hk))) (fun k hk => (hτ k hk).1 (hpre k (htw k hk).1)) hSw
      · -- the least that is not listed is ready
        have hex : ∃ k, k < n ∧ listed.getD k true = false := by
          rcases Classical.em (∃ k, k < n ∧ listed.getD k true = false) with h | h
          · exact h
          · exact absurd (fun k hk => by
              cases hkk : listed.getD k true with
              | true => rfl
              | false => exact absurd ⟨k, hk, hkk⟩ h) hpre
        obtain ⟨m, hm, hmin⟩ : ∃ m, (m < n ∧ listed.getD m true = false) ∧ ∀ k, k < m → listed.getD k true = true := by
          obtain ⟨k, hk⟩ := hex
          induction k using Nat.strongRecOn with
          | _ k ihk =>
            rcases Classical.em (∃ j, j < k ∧ listed.getD j true = false) with ⟨j, hj, hjl⟩ | h
            · exact ihk j hj ⟨by omega, hjl⟩
            · refine ⟨k, hk, fun j hj => ?_⟩
              cases hjj : listed.getD j true with
              | true => rfl
              | false => exact absurd ⟨j, hj, hjj⟩ h
        obtain ⟨om, hom⟩ : ∃ o, l[m]? = some o := ⟨_, List.getElem?_eq_getElem (by omega)⟩
        have hready : m ∈ Region.ready .any l.toArray listed := mem_ready.2 ⟨by simp; omega, hm.2, om, by simpa using hom, fun e he hb => by
          have := g.low m om (by simpa using hom) e he hb
          rw [← getD_tf (by omega)]
          exact hmin _ this⟩
        refine ⟨fun h => (by rw [h] at hready; cases hready), fun i hi => ?_⟩
        obtain ⟨hi1, hi2, o, ho, hi3⟩ := mem_ready.1 hi
        have hi1 : i < l.length := by simpa using hi1
        have hol : l[i]? = some o := by simpa using ho
        have hin : i < n := by
          rcases Nat.lt_trichotomy i n with h | h | h
          · exact h
          · -- all that it waits for, and so all, are listed
            subst h
            have hall : ∀ d k, i - k = d → k < i → listed.getD k true = true := by
              intro d
              induction d using Nat.strongRecOn with
              | _ d ihd =>
                intro k hd hk
                by_cases hpk : k ∈ pre
                · exact hP k hpk
                obtain ⟨j, hkj, hji, oj, hoj, hwj⟩ := g.sink (by simpa using hi1) k hk hpk
                obtain ⟨e, he, hb, heq⟩ := waits_spec hwj
                rw [getD_tf (by omega), ← heq]
                rcases Nat.lt_or_ge j i with hlt | hge
                · have hjl := ihd (i - j) (by omega) j rfl hlt
                  exact hc j oj (by omega) hjl (by simpa using hoj) e he hb
                · have : j = i := by omega
                  subst this
                  rw [ho] at hoj
                  cases hoj
                  exact hi3 e he hb
            have := hall _ m rfl hm.1
            rw [hm.2] at this
            cases this
          · obtain ⟨e, he, hb, heq⟩ := waits_spec (g.chain i o h (by simpa using hol))
            have := hi3 e he hb
            rw [heq, ← getD_tf (by omega), ht (i - 1) (by omega) (by omega)] at this
            cases this
        obtain ⟨v, hv, hcase⟩ := hk i o (by simp [hin, hol])
        have hAi := agree_frames D huniq a i (by omega)
        have hsame := same_op (ops := l.toArray) (o := o) (a := frames (D.take i) a) (a' := a') (g.noSel i o ho) (by
          intro t htl
          by_cases hw : ∃ (k : Nat) (u : Value), F σ k = some (some t, u)
          · obtain ⟨k, u, hku⟩ := hw
            obtain ⟨hkn, ok, hok', hdk⟩ := hFd σ k _ u hku
            have hnk : k ∉ nw := fun hnk => g.newApart k hnk ok t (by simpa using hok') hdk i o hin ho htl
            have hDu : D[k]? = some (some t, u) := by rw [hF, if_neg hnk] at hku; exact hku
            by_cases hts : t < a.tmps.size
            · have hki : k ≠ i := fun e => by
                subst e
                rw [hol] at hok'
                cases hok'
                exact g.own k o t hkn ho hdk htl
              rcases (g.pair k i ok o t hkn hin hki (by simpa using hok') ho hdk).2 with h1 | ⟨hlt, hwt⟩ | ⟨hlt, hwt⟩
              · exact absurd htl h1
              · obtain ⟨e, he, hb, heq⟩ := waits_spec hwt
                have hkl : listed.getD k true = true := by
                  rw [getD_tf (by omega), ← heq]; exact hi3 e he hb
                rw [hA.wrote k t u ⟨hkn, hkl⟩ hku hts, hAi.wrote k t u hlt hDu hts]
              · obtain ⟨e, he, hb, heq⟩ := waits_spec hwt
                have hkl : ¬ listed.getD k true = true := fun hkl => by
                  have := hc k ok (by omega) hkl hok' e he hb
                  rw [heq, ← getD_tf (by omega), hi2] at this
                  cases this
                rw [hA.kept t fun k' u' hk' hD' => ?_, hAi.kept t fun k' u' hk' hD' => ?_]
                · by_cases hkk : k' = k
                  · subst hkk; omega
                  · exact huniq k k' t u' u hkk hD' hDu
                · by_cases hkk : k' = k
                  · subst hkk; exact hkl hk'.2
                  · exact hFu σ k k' t u' u hkk hD' hku
            · rw [Array.getElem?_eq_none (show a'.tmps.size ≤ t from by rw [hA.size]; exact Nat.le_of_not_lt hts), Array.getElem?_eq_none (show (frames (D.take i) a).tmps.size ≤ t from by rw [hAi.size]; exact Nat.le_of_not_lt hts)]
          · rw [hA.kept t fun k v _ hkv => hw ⟨k, v, hkv⟩, hAi.kept t fun k v _ hkv => ?_]
            obtain ⟨_, hnk, _⟩ := hDd k t v hkv
            exact hw ⟨k, v, by rw [hF, if_neg hnk]; exact hkv⟩)
        have hset : ∀ k b, (listed.setIfInBounds i true).getD k b = if k = i then true else listed.getD k b := by
          intro k b
          by_cases hki : k = i
          · subst hki; simp [hs, hi1]
          · have : i ≠ k := Ne.symm hki
            simp [Array.getElem?_setIfInBounds_ne this, hki]
        have next : ∀ (σ' : Sig) (u : Value) w'', F σ' i = some (o.dst, u) → Agree (F σ') (fun k => k < n ∧ listed.getD k true = true) a a' → (∀ k ∈ nw, (listed.setIfInBounds i true).getD k true = true → (σ' k).isSome = true) → (∀ k ∈ tw, ((listed.setIfInBounds i true).getD k true = true → (σ' k).isSome = true) ∧ ((listed.setIfInBounds i true).getD k true = false → σ' k = none)) → S σ' w'' →
            wpAny P .any l.toArray Q fuel (listed.setIfInBounds i true) (a'.put o.dst u) w'' := by
          intro σ' u w'' hFi hA' hσ' hτ' hSw''
          refine ih _ _ w'' σ' (by simpa using hs) (by have := left_set (j := i) (by omega) hi2; omega) ?_ ?_ hσ' hτ' (fun p hp => by rw [hset]; split <;> first | rfl | exact hP p hp) ?_ hSw''
          · intro j hj hjl
            rw [hset, if_neg (by omega)]
            exact ht j hj hjl
          · intro k ok hkl hkt hok' e he hb
            rw [hset]
            split
            · rfl
            · rw [hset] at hkt
              by_cases hki : k = i
              · subst hki
                rw [hol] at hok'
                cases hok'
                exact hi3 e he hb
              · rw [if_neg hki] at hkt
                exact hc k ok hkl hkt hok' e he hb
          · have := hA'.put (j := i) hFi (fun k t u' hki hD' e => hFu σ' i k t u' u hki hD' (by rw [hFi, e]))
            refine ⟨this.defers, this.size, fun k t u hk => this.wrote k t u ?_, fun t ht => this.kept t fun k u hk => ht k u ?_⟩
            · obtain ⟨h1, h2⟩ := hk
              rw [hset] at h2
              by_cases hki : k = i
              · exact .inr hki
              · rw [if_neg hki] at h2; exact .inl ⟨h1, h2⟩
            · rw [hset]
              rcases hk with ⟨h1, h2⟩ | rfl
              · exact ⟨h1, by split <;> first | rfl | exact h2⟩
              · exact ⟨hin, by simp⟩
        have hσset : i ∉ nw → ∀ k ∈ nw, (listed.setIfInBounds i true).getD k true = true → (σ k).isSome = true := fun hni k hk hkl => by
          rw [hset, if_neg (fun (e : k = i) => hni (e ▸ hk))] at hkl
          exact hσ k hk hkl
        have hτset : i ∉ tw → ∀ k ∈ tw, ((listed.setIfInBounds i true).getD k true = true → (σ k).isSome = true) ∧ ((listed.setIfInBounds i true).getD k true = false → σ k = none) := fun hni k hk => by
          rw [hset, if_neg (fun (e : k = i) => hni (e ▸ hk))]
          exact hτ k hk
        unfold wpOp
        simp only [ho]
        rcases hcase with ⟨hni, hn1⟩ | ⟨hni, hw1, hc1⟩ | ⟨hni, hw1, rfl⟩
        · have hg := g.newPlain i hni o ho
          rw [show Region.wanted o (yielded l.toArray a'.tmps) = true by simp [Region.wanted, hg]]
          refine .inl (hn1.at hsame.1 (by rw [hAi.size, hA.size]) hSw (fun k hk ⟨e, he, hb, hek⟩ => (hτ k hk).1 (by rw [← hek]; have := hi3 e he hb; rw [getD_tf (by have := (htw k hk).1; omega)]; exact this)) _ _ fun u w'' hSu => ?_)
          refine next (σ.upd i u) u w'' (by rw [hF, if_pos hni, hol]; simp [Sig.upd]) ?_ ?_ ?_ hSu
          · have hne : ∀ k, (k < n ∧ listed.getD k true = true) → F (σ.upd i u) k = F σ k := fun k hk => by
              have hki : k ≠ i := fun e => by subst e; rw [hi2] at hk; cases hk.2
              rw [hF, hF]
              simp [Sig.upd, hki]
            exact ⟨hA.defers, hA.size, fun k t u' hk hD' => hA.wrote k t u' hk (by rw [← hne k hk]; exact hD'), fun t ht => hA.kept t fun k u' hk => by rw [← hne k hk]; exact ht k u' hk⟩
          · intro k hk hkl
            by_cases hki : k = i
            · simp [Sig.upd, hki]
            · rw [hset, if_neg hki] at hkl
              simpa [Sig.upd, hki] using hσ k hk hkl
          · intro k hk
            have hki : k ≠ i := fun e => (htw k hk).2.1 (e ▸ hni)
            rw [hset, if_neg hki]
            simpa [Sig.upd, hki] using hτ k hk
        · rw [hsame.2, hw1]
          by_cases hit : i ∈ tw
          · refine .inl (hc1.at hsame.1 (by rw [hAi.size, hA.size]) hSw (fun hit => (hτ i hit).2 hi2) (fun k hk ⟨e, he, hb, hek⟩ => (hτ k hk).1 (by rw [← hek]; have := hi3 e he hb; rw [getD_tf (by have := (htw k hk).1; omega)]; exact this)) _ _ fun w'' hSu => next (σ.upd i v) v w'' (by rw [hF, if_neg hni]; exact hDk i o v hin hni hol hv) ?_ ?_ ?_ (by rw [trk, if_pos hit] at hSu; exact hSu))
            · have hne : ∀ k, (k < n ∧ listed.getD k true = true) → F (σ.upd i v) k = F σ k := fun k hk => by
                have hki : k ≠ i := fun e => by subst e; rw [hi2] at hk; cases hk.2
                rw [hF, hF]
                simp [Sig.upd, hki]
              exact ⟨hA.defers, hA.size, fun k t u' hk hD' => hA.wrote k t u' hk (by rw [← hne k hk]; exact hD'), fun t ht => hA.kept t fun k u' hk => by rw [← hne k hk]; exact ht k u' hk⟩
            · intro k hk hkl
              by_cases hki : k = i
              · simp [Sig.upd, hki]
              · rw [hset, if_neg hki] at hkl
                simpa [Sig.upd, hki] using hσ k hk hkl
            · intro k hk
              rw [hset]
              by_cases hki : k = i
              · simp [Sig.upd, hki]
              · rw [if_neg hki]
                simpa [Sig.upd, hki] using hτ k hk
          · exact .inl (hc1.at hsame.1 (by rw [hAi.size, hA.size]) hSw (fun hit => (hτ i hit).2 hi2) (fun k hk ⟨e, he, hb, hek⟩ => (hτ k hk).1 (by rw [← hek]; have := hi3 e he hb; rw [getD_tf (by have := (htw k hk).1; omega)]; exact this)) _ _ fun w'' hSu => next σ v w'' (by rw [hF, if_neg hni]; exact hDk i o v hin hni hol hv) hA (hσset hni) (hτset hit) (by rw [trk, if_neg hit] at hSu; exact hSu))
        · rw [hsame.2, hw1]
          have hit : i ∉ tw := fun hit => by
            have := (htw i hit).2.2.2 o hol
            simp [Region.wanted, this] at hw1
          exact next σ undef w' (by rw [hF, if_neg hni]; exact hDk i o undef hin hni hol hv) hA (hσset hni) (hτset hit) hSw
  refine main _ listed0 a0 w Sig.no hs0 rfl (fun j hnj hj => ?_) (fun k o hk hkt ho e he hb => ?_) (fun k hk hkt => ?_) (fun k hk => ?_) hp0 ?_ hS
  · cases hjj : listed0.getD j true with
    | false => rfl
    | true =>
      have := (g.preAny j (hl0 j hj hjj)).1
      omega
  · obtain ⟨_, _, o', ho', _, haf⟩ := g.preAny k (hl0 k hk hkt)
    obtain rfl : o' = o := by simpa [ho] using ho'.symm
    have := g.low k o' (by simpa using ho) e he hb
    rw [← getD_tf (by omega)]
    exact hp0 _ (haf e he hb)
  · exact absurd hk (g.preAny k (hl0 k (by have := g.newLt k hk; omega) hkt)).2.1
  · exact ⟨fun hkt => absurd (hl0 k (by have := (htw k hk).1; omega) hkt) (htw k hk).2.2.1, fun _ => rfl⟩
  · have step : ∀ (r done : List Nat) (a1 : Act), (∀ x ∈ r, x ∈ pre) → preOk l.toArray n nw done r = true → PreRun P l r a1 a0 → Agree (F Sig.no) (fun k => k ∈ done) a a1 →
        (∀ k ∈ done, ∀ o, l[k]? = some o → ∀ e ∈ o.after, Region.binds .any e = true → e.on ∈ done) → Agree (F Sig.no) (fun k => k ∈ r ∨ k ∈ done) a a0 := by
      intro r
      induction r with
      | nil =>
        intro done a1 _ _ hr hA _
        obtain rfl : a0 = a1 := hr
        simpa using hA
      | cons p r ih =>
        intro done a1 hrp hpo hr hA hcl
        obtain ⟨hpn, hpw, hpd, ⟨o, hop, hgd, haf⟩, hpo'⟩ := preOk_cons hpo
        have hop : l[p]? = some o := by simpa using hop
        obtain ⟨o', v, ho', hrun, hr'⟩ := hr
        obtain rfl : o' = o := by simpa [hop] using ho'.symm
        obtain ⟨u, hu, hcase⟩ := hk p o' (by simp [hpn, hop])
        have hAi := agree_frames D huniq a p (by omega)
        have hsame := same_op (ops := l.toArray) (o := o') (a := a1) (a' := frames (D.take p) a) (g.noSel p o' (by simpa using hop)) (by
          intro t htl
          by_cases hts : t < a.tmps.size
          · by_cases hw : ∃ (k : Nat) (u : Value), F Sig.no k = some (some t, u)
            · obtain ⟨k, x, hkx⟩ := hw
              obtain ⟨hkn, ok, hok', hdk⟩ := hFd Sig.no k _ x hkx
              have hnk : k ∉ nw := fun hnk => g.newApart k hnk ok t (by simpa using hok') hdk p o' hpn (by simpa using hop) htl
              have hDu : D[k]? = some (some t, x) := by rw [hF, if_neg hnk] at hkx; exact hkx
              have hkp : k ≠ p := fun e => by
                subst e
                rw [hop] at hok'
                cases hok'
                exact g.own k o' t hkn (by simpa using hop) hdk htl
              rcases (g.pair k p ok o' t hkn hpn hkp (by simpa using hok') (by simpa using hop) hdk).2 with h1 | ⟨hlt, hwt⟩ | ⟨hlt, hwt⟩
              · exact absurd htl h1
              · obtain ⟨e, he, hb, heq⟩ := waits_spec hwt
                have hkd : k ∈ done := heq ▸ haf e he hb
                rw [hA.wrote k t x hkd hkx hts, hAi.wrote k t x hlt hDu hts]
              · obtain ⟨e, he, hb, heq⟩ := waits_spec hwt
                have hkd : k ∉ done := fun hkd => hpd (heq ▸ hcl k hkd ok hok' e he hb)
                rw [hA.kept t fun k' u' hk' hD' => ?_, hAi.kept t fun k' u' hk' hD' => ?_]
                · by_cases hkk : k' = k
                  · subst hkk; omega
                  · exact huniq k k' t u' x hkk hD' hDu
                · by_cases hkk : k' = k
                  · subst hkk; exact hkd hk'
                  · exact hFu Sig.no k k' t u' x hkk hD' hkx
            · rw [hA.kept t fun k v _ hkv => hw ⟨k, v, hkv⟩, hAi.kept t fun k v _ hkv => ?_]
              obtain ⟨_, hnk, _⟩ := hDd k t v hkv
              exact hw ⟨k, v, by rw [hF, if_neg hnk]; exact hkv⟩
          · rw [Array.getElem?_eq_none (show (frames (D.take p) a).tmps.size ≤ t from by rw [hAi.size]; exact Nat.le_of_not_lt hts), Array.getElem?_eq_none (show a1.tmps.size ≤ t from by rw [hA.size]; exact Nat.le_of_not_lt hts)])
        have hput : a1.put o'.dst v = a1.put o'.dst u := by
          rcases hcase with ⟨hni, _⟩ | ⟨_, _, hc1⟩ | ⟨_, hw1, _⟩
          · exact absurd hni hpw
          · have h1 := hc1.at (a' := a1) hsame.1.symm (by rw [hAi.size, hA.size]) hS (fun _ => rfl) (fun k hk hd => absurd hd (hpd0 p (hrp p (by simp)) o' (by simpa using hop) k hk)) (fun a2 _ => a2 = a1.put o'.dst u) (fun _ _ _ => False) (fun _ _ => rfl)
            unfold Oper.wp at h1
            rw [hrun w] at h1
            simpa only [Oper.upon] using h1
          · exfalso
            simp [Region.wanted, hgd] at hw1
        rw [hput] at hr'
        have hFp : F Sig.no p = some (o'.dst, u) := by rw [hF, if_neg hpw]; exact hDk p o' u hpn hpw hop hu
        have hA' := hA.put (j := p) hFp (fun k t u' hki hD' e => hFu Sig.no p k t u' u hki hD' (by rw [hFp, e]))
        have hA2 : Agree (F Sig.no) (fun k => k ∈ p :: done) a (a1.put o'.dst u) :=
          ⟨hA'.defers, hA'.size, fun k t x hk => hA'.wrote k t x (by
            rcases List.mem_cons.1 hk with h | h
            · exact .inr h
            · exact .inl h), fun t ht => hA'.kept t fun k x hk => ht k x (by
            rcases hk with h | h
            · exact List.mem_cons_of_mem _ h
            · exact h ▸ List.mem_cons_self ..)⟩
        have := ih (p :: done) _ (fun x hx => hrp x (by simp [hx])) hpo' hr' hA2 (fun k hk o ho e he hb => by
          rcases List.mem_cons.1 hk with rfl | hk
          · rw [hop] at ho
            cases ho
            exact List.mem_cons_of_mem _ (haf e he hb)
          · exact List.mem_cons_of_mem _ (hcl k hk o ho e he hb))
        refine ⟨this.defers, this.size, fun k t x hk => this.wrote k t x ?_, fun t ht => this.kept t fun k x hk => ht k x ?_⟩
        · rcases hk with hk | hk
          · rcases List.mem_cons.1 hk with rfl | hk
            · exact .inr (List.mem_cons_self ..)
            · exact .inl hk
          · exact .inr (List.mem_cons_of_mem _ hk)
        · rcases hk with hk | hk
          · exact .inl (List.mem_cons_of_mem _ hk)
          · rcases List.mem_cons.1 hk with rfl | hk
            · exact .inl (List.mem_cons_self ..)
            · exact .inr hk
    have h0 : Agree (F Sig.no) (fun k => k ∈ ([] : List Nat)) a a := ⟨rfl, rfl, fun k t v hk _ _ => (by cases hk), fun t _ => rfl⟩
    have := step pre [] a (fun x hx => hx) g.preOrd ha0 h0 (fun k hk => by cases hk)
    refine ⟨this.defers, this.size, fun k t x hk => this.wrote k t x (.inl (hl0 k (by omega) hk.2)), fun t ht => this.kept t fun k x hk => ht k x ?_⟩
    rcases hk with hk | hk
    · exact ⟨(g.preAny k hk).1, hp0 k hk⟩
    · cases hk

theorem wp_region_new {id : Nat} {Q : Exit → Act → World → Prop} {a : Act} {w : World} {l : List Oper} (S : Sig → World → Prop) (n : Nat) (nw tw : List Nat) (htw : ∀ k ∈ tw, k < n ∧ k ∉ nw ∧ ∀ o, l[k]? = some o → o.guard = none) (hm : P.follows .mixedOrders = true) (hok : calmOk l.toArray n nw = true) (hS : S Sig.no w.drew)
    (h : calm P l.toArray S nw tw (fun a' => ∀ σ w', (∀ k ∈ nw, (σ k).isSome = true) → (∀ k ∈ tw, (σ k).isSome = true) → S σ w' → wpList P l.toArray Q (l.drop n) (putNew l nw σ a') w') 0 (l.take n) a) : (Code.region id l.toArray true).wp P Q a w := by
  refine wp_region_any hm ?_
  have hl := left_none l.toArray.size
  have := wpAny_new (a0 := a) S n nw tw [] (fun k hk => ⟨(htw k hk).1, (htw k hk).2.1, by simp, (htw k hk).2.2⟩) (fun p hp => by cases hp) hok hS h (Array.replicate l.toArray.size false) (by simp) (fun k hk hkt => by simp [hk] at hkt) (fun p hp => by cases hp) rfl
  rw [hl] at this
  exact this


theorem calm_value {R : Act → Prop} {a : Act} {o : Oper} {rest : List Oper} {i : Nat} {v : Value} (hi : i ∉ nw) (ht : i ∉ tw) (hw : Region.wanted o (yielded ops a.tmps) = true) (h1 : ∀ σ w, S σ w → (execOp a.eval o).run P w = .ok (.value v) w) (h : calm P ops S nw tw R (i + 1) rest (a.put o.dst v)) : calm P ops S nw tw R i (o :: rest) a :=
  calm_step v hi hw (fun σ w hS _ _ K Q hK => by unfold Oper.wp; rw [h1 σ w hS]; exact hK w (by rw [trk, if_neg ht]; exact hS)) h
theorem calm_track {R : Act → Prop} {a : Act} {o : Oper} {rest : List Oper} {i : Nat} {v : Value} (hi : i ∉ nw) (ht : i ∈ tw) (hw : Region.wanted o (yielded ops a.tmps) = true) (h1 : ∀ σ w, S σ w → σ i = none → (∀ k ∈ tw, Deps o k → (σ k).isSome = true) → ∃ w', (execOp a.eval o).run P w = .ok (.value v) w' ∧ S (σ.upd i v) w') (h : calm P ops S nw tw R (i + 1) rest (a.put o.dst v)) : calm P ops S nw tw R i (o :: rest) a :=
  calm_step v hi hw (fun σ w hS hf hd K Q hK => by
    obtain ⟨w', hr, hs⟩ := h1 σ w hS (hf ht) hd
    unfold Oper.wp
    rw [hr]
    exact hK w' (by rw [trk, if_pos ht]; exact hs)) h
end
end Go.Proofs.Ytljejkdkjnbmhaa.Trd
/- flate: the walk of the fixed codes' lengths. -/
namespace Go.Proofs.Ytljejkdkjnbmhaa
open Go.RowKit

theorem fixL_flat : [List.replicate 144 (8 : Int), List.replicate 112 9, List.replicate 24 7, List.replicate 8 8].flatten = fixL := by
  simp only [List.flatten_cons, List.flatten_nil, List.append_nil]; unfold fixL; simp only [List.append_assoc]
theorem one_row {w : World} {g : Nat} {a : Int} (h : w.heap[g]? = some (.cells #[.int .i64 a] 3)) : Rd w 1 (.slice (some ⟨g, 0, none⟩) 1 1) 1 (nums [a]) := by
  refine ⟨rfl, _, _, rfl, Nat.le_refl _, by decide, by simp, fun ad had j u hu => ?_⟩
  obtain rfl := Option.some.inj had
  rw [Addr.add_lit, Nat.zero_add, cell_of_block h]
  have : j = 0 := by have := (List.getElem?_eq_some_iff.1 hu).1; simpa [nums] using this
  subst this
  exact hu

end Go.Proofs.Ytljejkdkjnbmhaa
/- stream: the walks of table, again. -/
namespace Go.Proofs.Ytljejkdkjnbmhaa
open Go.RowKit

/-- A table, if lengths have one. -/
def TblO (v : Value) (l : List Int) : Piece := if terrF l = 0 then ex fun t => star (fact (v = .pointer (some ⟨t, 0, none⟩))) (Tbl t l) else fact (v = .pointer none)
def eT (l : List Int) (e : Int) : Int := if terrF l = 0 then e else if e = 0 then 2 else e
theorem Own.tblo {w0 w : World} {ps : List Piece} {v : Value} {l : List Int} (H : Own w0 w (TblO v l :: ps)) (h : terrF l = 0) : ∃ t, v = .pointer (some ⟨t, 0, none⟩) ∧ Own w0 w (Tbl t l :: ps) := by
  unfold TblO at H
  rw [if_pos h] at H
  obtain ⟨t, H⟩ := H.ex
  obtain ⟨hv, H⟩ := H.star.fact
  exact ⟨t, hv, H⟩
set_option maxRecDepth 100000 in
set_option maxHeartbeats 1600000 in
theorem pttable_g {w0 w : World} {ps : List Piece} {g rg n m : Nat} {l : List Int} {v : Value} {s : ByteArray} {e : Int} (hr : Rd w 1 v m (nums l)) (hm : m ≤ 1000000) (H : Own w0 w (Prt g rg s n e :: ps)) :
    Calls Try.prog 50 #[.pointer (some ⟨g, 0, none⟩), v] w (Ret fun r w' => Own w0 w' (TblO r l :: Prt g rg s n (eT l e) :: ps)) := by
  have HN := Lib.hid (hnew_any hr hm)
  obtain ⟨x, hx⟩ : ∃ x, Hid (terrF l = x) := ⟨_, rfl⟩
  rw [hx.out] at HN
  obtain ⟨a, c, rfl, _, _⟩ := hr.shape
  clear hr
  obtain ⟨E, hE⟩ : ∃ E, Hid (eT l e = E) := ⟨_, rfl⟩
  rw [hE.out]
  go_enter Try.func50, Try.ntmps50
  go_wp2_with fail
  refine HN.out.mono ?_
  rintro e1 w1 ⟨_, rfl, pv, rfl, hn1, hn2⟩
  replace hn1 := Lib.hid hn1
  replace hn2 := Lib.hid hn2
  by_cases h0 : x = 0
  · subst h0
    have hEE : Hid (e = E) := Lib.hid (by rw [← hE.out]; unfold eT; rw [if_pos hx.out])
    obtain ⟨t, rfl, H1⟩ := hn2.out rfl
    have H2 := H.join H1
    have H3 : Own w0 w1 (TblO (.pointer (some ⟨t, 0, none⟩)) l :: Prt g rg s n e :: ps) := by
      unfold TblO
      rw [if_pos hx.out]
      exact Own.unex (f := fun t' => Go.Proofs.Ytljejkdkjnbmhaa.star (Go.Proofs.Ytljejkdkjnbmhaa.fact (Value.pointer (some ⟨t, 0, none⟩) = .pointer (some ⟨t', 0, none⟩))) (Tbl t' l)) t ((H2.unfact rfl).unstar)
    clear H1 H H2 HN
    go_wp2
    go_ret
    exact ⟨_, rfl, by rw [← hEE.out]; exact H3⟩
  · obtain ⟨rfl, H1⟩ := hn1.out h0
    have hEE : Hid ((if e = 0 then 2 else e) = E) := Lib.hid (by rw [← hE.out]; exact (if_neg (by rw [hx.out]; exact h0)).symm)
    have H2 := H.join H1
    have HH := Lib.hid (ptfail_any (g := g) (rg := rg) H2)
    rw [hEE.out] at HH
    have hb : (x == 0) = false := by simp [h0]
    clear H1 H HN hn1 hn2
    go_wp2_with fail
    refine HH.out.mono ?_
    rintro e1 w2 ⟨_, rfl, H3⟩
    have H4 : Own w0 w2 (TblO (.pointer none) l :: Prt g rg s n E :: ps) := by
      unfold TblO
      rw [if_neg (by rw [hx.out]; exact h0)]
      exact H3.unfact rfl
    go_wp2
    go_ret
    exact ⟨_, rfl, H4⟩
/-- What is there behind a length again: as it was, if something is amiss. -/
def agM (N : Nat) (l : List Int) (k : Nat) (x e : Int) : List Int := if e = 0 then agL N l k x else l
theorem agM_zero {N k : Nat} {l : List Int} {x : Int} : agM N l k x 0 = agL N l k x := if_pos rfl
theorem agM_ne {N k : Nat} {l : List Int} {x e : Int} (h : e ≠ 0) : agM N l k x e = l := if_neg h
theorem agE_ne {N k : Nat} {l : List Int} {e : Int} (h : e ≠ 0) : agE N l k e = e := by
  unfold agE
  rw [if_neg h]
  split <;> rfl
theorem agM_len {N k : Nat} {l : List Int} {x e : Int} (h : l.length ≤ N) : (agM N l k x e).length ≤ N := by
  unfold agM
  split
  · exact agL_len h
  · exact h
set_option maxRecDepth 100000 in
set_option maxHeartbeats 1600000 in
theorem ptagain_any {w0 w : World} {ps : List Piece} {g rg n : Nat} {s : ByteArray} {l : List Int} {lv : Value} {e : Int} (x : Int) (k N : Nat) (hk : k ≤ 70000) (hN : N ≤ 1000) (hl : l.length ≤ N)
    (H : Own w0 w (slc 3 1 lv l.length (nums l) :: Prt g rg s n e :: ps)) :
    Calls Try.prog 67 #[.pointer (some ⟨g, 0, none⟩), lv, .int .i64 x, .int .i64 k, .int .i64 N] w (Ret fun r w' => Own w0 w' (slc 3 1 r (agM N l k x e).length (nums (agM N l k x e)) :: Prt g rg s n (agE N l k e) :: ps)) := by
  have HK := Lib.hid (ptok_any (H.front 1 rfl))
  obtain ⟨a, c, rfl, h1, h2⟩ := H.rd.shape
  by_cases he : e = 0
  case neg =>
    rw [agM_ne he, agE_ne he]
    rw [decide_eq_false he] at HK
    obtain ⟨M, hM⟩ : ∃ M, Hid (l.length = M) := ⟨_, rfl⟩
    rw [hM.out] at H ⊢
    clear he
    go_enter Try.func67, Try.ntmps67
    go_wp2_with fail
    refine HK.out.mono ?_
    rintro e1 w1 ⟨rfl, rfl⟩
    go_wp2_with fail
    refine HK.out.mono ?_
    rintro e1 w1 ⟨rfl, rfl⟩
    go_wp2
    go_ret
    exact ⟨_, rfl, H⟩
  subst he
  rw [decide_eq_true rfl] at HK
  rw [agM_zero]
  obtain ⟨L', hL'⟩ : ∃ L', Hid (agL N l k x = L') := ⟨_, rfl⟩
  obtain ⟨E', hE'⟩ : ∃ E', Hid (agE N l k 0 = E') := ⟨_, rfl⟩
  rw [hL'.out, hE'.out]
  have HF := Lib.hid (ptfail_any (H.front 1 rfl))
  rw [if_pos rfl] at HF
  obtain ⟨M, hM⟩ : ∃ M, Hid (l.length = M) := ⟨_, rfl⟩
  by_cases hlt : N < l.length + k
  · have e1 : Hid (l = L') := Lib.hid (by rw [← hL'.out]; unfold agL; rw [if_pos hlt])
    have e2 : Hid (2 = E') := Lib.hid (by rw [← hE'.out]; unfold agE; rw [if_pos hlt, if_pos rfl])
    rw [← e1.out, ← e2.out]
    rw [hM.out] at hl hlt H HF h1 ⊢
    have hw : IntKind.i64.wrap ((N : Int) - M) = N - M := IntWalk.i64_in _ ⟨by omega, by omega⟩
    have hlt2 : (N : Int) - M < k := by omega
    go_enter Try.func67, Try.ntmps67
    go_wp2_with fail
    refine HK.out.mono ?_
    rintro e1 w1 ⟨rfl, rfl⟩
    go_wp2_with fail
    refine HF.out.mono ?_
    rintro e1 w1 ⟨_, rfl, H1⟩
    have HK2 := Lib.hid (ptok_any H1)
    rw [decide_eq_false (by decide)] at HK2
    clear HK HF H
    go_wp2_with fail
    refine HK2.out.mono ?_
    rintro e1 w2 ⟨rfl, rfl⟩
    go_wp2
    go_ret
    exact ⟨_, rfl, H1.swap⟩
  · have e1 : Hid (l ++ List.replicate k x = L') := Lib.hid (by rw [← hL'.out]; unfold agL; rw [if_neg hlt])
    have e2 : Hid (0 = E') := Lib.hid (by rw [← hE'.out]; unfold agE; rw [if_neg hlt])
    rw [← e1.out, ← e2.out]
    have hlen : M + k = (l ++ List.replicate k x).length := by rw [List.length_append, List.length_replicate, hM.out]
    rw [← hlen, ← nums_append]
    clear hlen
    rw [hM.out] at hl hlt H h1 ⊢
    have hw : IntKind.i64.wrap ((N : Int) - M) = N - M := IntWalk.i64_in _ ⟨by omega, by omega⟩
    have hlt2 : ¬ (N : Int) - M < k := by omega
    clear HF
    go_enter Try.func67, Try.ntmps67
    go_wp2_with fail
    refine HK.out.mono ?_
    rintro e1 w1 ⟨rfl, rfl⟩
    go_wp2_with fail
    refine HK.out.mono ?_
    rintro e1 w1 ⟨rfl, rfl⟩
    clear HK
    go_wp2_with fail
    have HA := H.alloc (.cells #[.int .i64 x] 3)
    refine (repeat_any k (one_row HA.block.1) (by omega)).mono ?_
    rintro e1 w3 ⟨v3, rfl, h3⟩
    have HD := HA.join h3
    clear HA h3 H
    obtain ⟨a4, c4, rfl, -⟩ := HD.rd.shape
    have hx := HD.rd
    have H3 := HD.front 2 rfl
    clear HD
    go_wp2_with (at_builtin; refine wpList_append_sep rfl _ _ rfl Try.underlying30 intInfo rfl (by decide) rfl H3 hx (nums_one _) (by omega) (by omega) ?_; clear H3 hx; intro v' w' H; obtain ⟨a', c', rfl, h1', h2'⟩ := H.rd.shape)
    go_ret
    exact ⟨_, rfl, (H.front 1 rfl).drop.front 1 rfl |>.drop⟩
end Go.Proofs.Ytljejkdkjnbmhaa
