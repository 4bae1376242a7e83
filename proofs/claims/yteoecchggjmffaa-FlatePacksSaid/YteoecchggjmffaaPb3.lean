/-
  Texts of this claim, one behind the other: flate; flate; huff; huff; Bits; Bits; flate; lz; flate; slices.Repeat; copy into a row of the call's own; slices.Repeat of one int; slices.Grow of nil, slices.Concat; flate; A map of the call's own whose elements are ints (0 where there is none); lz; lz; A look-up in a map of ints, in a region that draws its order; lz; lz; lz; lz; Bits; Bits.
-/
import Derived.Test.YteoecchggjmffaaPb2
import Derived.OwnWalk
import Derived.Laws.ResultCell
import Derived.Deep.OwnRows
import Derived.Laws.CopyOwn
import Derived.Lib.AppendZeros
import Derived.Maps.Own
import Derived.Maps.OwnOps
import Derived.Maps.Views
import Derived.ProofKit
import Derived.DeepKeys4
import Derived.Test.YteoecchggjmffaaRows
import Derived.Deep.DeepCutAuto
import Derived.Deep.CutBlock
import Derived.Deep.LoopGhost
import Derived.WalkLawsBesides
import Derived.WalkSpells
import Derived.BigQuiet
import Derived.Deep.QuietTactic
import Derived.Carry
import Derived.Laws.BytesArg
set_option linter.unusedVariables false
/- flate: a block's bits, plainly. No program in sight. -/
namespace Go.Proofs.Yteoecchggjmffaa

/-- A token's bits, by codes of lengths. -/
def tbits (L D : List Int) (t : Tok) : List Bool :=
  if t.len = 0 then cbits L t.lit.toNat
  else cbits L (lenSym t.len.toNat).1 ++ (bitsOf (lenSym t.len.toNat).2.2 (lenSym t.len.toNat).2.1 ++ (cbits D (distSym t.dist.toNat).1 ++ bitsOf (distSym t.dist.toNat).2.2 (distSym t.dist.toNat).2.1))
def toksB (L D : List Int) (l : List Tok) : List Bool := l.flatMap (tbits L D)
def bodyB (L D : List Int) (l : List Tok) : List Bool := toksB L D l ++ cbits L 256
/-- The fixed codes' lengths. -/
def fixL : List Int := List.replicate 144 8 ++ List.replicate 112 9 ++ List.replicate 24 7 ++ List.replicate 8 8
def fixD : List Int := List.replicate 32 5
def headB (last : Bool) (kind : Int) : List Bool := last :: bitsOf kind 2

/-- How often each symbol comes. -/
def litS (t : Tok) : Int := if t.len = 0 then t.lit else ((lenSym t.len.toNat).1 : Int)
def distS (t : Tok) : Int := ((distSym t.dist.toNat).1 : Int)
def litFq (l : List Tok) : List Int := bumpF ((zerosF 286).set 256 1) (l.map litS)
def distFq (l : List Tok) : List Int := bumpF (zerosF 30) ((l.filter fun t => decide (t.len ≠ 0)).map distS)
/-- Without the zeros behind the last one, at least so many. -/
def trimK (l : List Int) (least : Nat) : Nat → Nat
  | 0 => 0
  | k + 1 => if least < k + 1 ∧ l.getD k 0 = 0 then trimK l least k else k + 1
def trimF (l : List Int) (least : Nat) : List Int := l.take (trimK l least l.length)
/-- Lengths, as runs: symbol, how many bits more, these. -/
structure Run where
  sym : Int
  n : Int
  v : Int
def sameK (x : Int) : List Int → Nat
  | [] => 0
  | y :: t => if y = x then sameK x t + 1 else 0
def runsN : Nat → List Int → List Run
  | 0, _ => []
  | _ + 1, [] => []
  | f + 1, x :: t =>
    if x = 0 ∧ 10 < sameK x t + 1 then ⟨18, 7, (min (sameK x t + 1) 138 : Nat) - 11⟩ :: runsN f ((x :: t).drop (min (sameK x t + 1) 138))
    else if x = 0 ∧ 2 < sameK x t + 1 then ⟨17, 3, (sameK x t + 1 : Nat) - 3⟩ :: runsN f ((x :: t).drop (sameK x t + 1))
    else if 3 < sameK x t + 1 then ⟨x, 0, 0⟩ :: ⟨16, 2, (min (sameK x t + 1) 7 : Nat) - 4⟩ :: runsN f ((x :: t).drop (min (sameK x t + 1) 7))
    else ⟨x, 0, 0⟩ :: runsN f t
def runsF (l : List Int) : List Run := runsN l.length l
/-- The order in which the lengths of lengths' codes stand. -/
def ordF : List Nat := [16, 17, 18, 0, 8, 7, 9, 6, 10, 5, 11, 4, 12, 3, 13, 2, 14, 1, 15]
def richL (l : List Tok) : List Int := trimF (resF (litFq l) 15) 257
def richD (l : List Tok) : List Int := trimF (resF (distFq l) 15) 1
def richR (l : List Tok) : List Run := runsF (richL l ++ richD l)
def runFq (rs : List Run) : List Int := bumpF (zerosF 19) (rs.map Run.sym)
def runL (rs : List Run) : List Int := resF (runFq rs) 7
def sortedF (ls : List Int) : List Int := trimF (ordF.map fun s => ls.getD s 0) 4
def runB (ls : List Int) (r : Run) : List Bool := cbits ls r.sym.toNat ++ bitsOf r.v r.n.toNat
def runsB (ls : List Int) (rs : List Run) : List Bool := rs.flatMap (runB ls)
def lensB (l : List Int) : List Bool := l.flatMap fun n => bitsOf n 3
def sizesB (a b c : Nat) : List Bool := bitsOf ((a : Int) - 257) 5 ++ (bitsOf ((b : Int) - 1) 5 ++ bitsOf ((c : Int) - 4) 4)
/-- What stands behind a block's beginning. -/
def richB (l : List Tok) : List Bool :=
  sizesB (richL l).length (richD l).length (sortedF (runL (richR l))).length ++ (lensB (sortedF (runL (richR l))) ++ (runsB (runL (richR l)) (richR l) ++ bodyB (richL l) (richD l) l))
def blockB (l : List Tok) (kind : Int) (last : Bool) : List Bool := if kind = 1 then headB last 1 ++ bodyB fixL fixD l else headB last 2 ++ richB l
/-- A text as it is. -/
def storeB : Nat → ByteArray → List Bool → List Bool
  | 0, _, bs => bs
  | f + 1, t, bs => if t.size ≤ 65535
      then aligned (bs ++ headB true 0) ++ (bitsOf (t.size : Int) 16 ++ (bitsOf (65535 - (t.size : Int)) 16 ++ textBits t))
      else storeB f (t.extract 65535 t.size) (aligned (bs ++ headB false 0) ++ (bitsOf 65535 16 ++ (bitsOf 0 16 ++ textBits (t.extract 0 65535))))
def storeF (s : ByteArray) : List Bool := storeB (s.size + 1) s []

/-- What a token of a text may be. -/
def TokOk (t : Tok) : Prop := (t.len = 0 ∧ 0 ≤ t.lit ∧ t.lit < 256) ∨ (3 ≤ t.len ∧ t.len ≤ 258 ∧ 1 ≤ t.dist ∧ t.dist ≤ 32768)
theorem may_ok {t : Tok} {n : Nat} (h : may t n = true) : TokOk t := by
  unfold may at h
  unfold TokOk
  split at h
  · next h0 => have := of_decide_eq_true h; omega
  · have := of_decide_eq_true h; omega

/-! ### symbols -/

/-! ### how long -/
theorem flat_le {α : Type} {f : α → List Bool} {b : Nat} : ∀ (l : List α), (∀ x ∈ l, (f x).length ≤ b) → (l.flatMap f).length ≤ b * l.length
  | [], _ => by simp
  | x :: t, h => by
    have h1 := flat_le t fun y hy => h y (by simp [hy])
    have h2 := h x (by simp)
    rw [List.flatMap_cons, List.length_append, List.length_cons, Nat.mul_succ]
    omega
theorem getD_le {l : List Int} (hl : ∀ x ∈ l, 0 ≤ x ∧ x ≤ 15) (s : Nat) : 0 ≤ l.getD s 0 ∧ l.getD s 0 ≤ 15 := by
  by_cases h : s < l.length
  · exact hl _ (mem_getD2 h)
  · rw [List.getD_eq_getElem?_getD, List.getElem?_eq_none (by omega)]; simp
theorem cbits_le {l : List Int} (hl : ∀ x ∈ l, 0 ≤ x ∧ x ≤ 15) (s : Nat) : (cbits l s).length ≤ 15 := by
  rw [cbits_length]; have := getD_le hl s; omega
theorem tbits_le {L D : List Int} (hL : ∀ x ∈ L, 0 ≤ x ∧ x ≤ 15) (hD : ∀ x ∈ D, 0 ≤ x ∧ x ≤ 15) {t : Tok} (ht : TokOk t) : (tbits L D t).length ≤ 48 := by
  unfold tbits
  split
  · have := cbits_le hL t.lit.toNat; omega
  · next h =>
    have h1 := cbits_le hL (lenSym t.len.toNat).1
    have h2 := cbits_le hD (distSym t.dist.toNat).1
    have h3 : 3 ≤ t.len ∧ t.len ≤ 258 ∧ 1 ≤ t.dist ∧ t.dist ≤ 32768 := by rcases ht with h4 | h4 <;> omega
    have h4 := lenSym_bd (n := t.len.toNat) (by omega)
    have h5 := distSym_bd (n := t.dist.toNat) (by omega)
    rw [List.length_append, List.length_append, List.length_append, bitsOf_length, bitsOf_length]
    omega
theorem toksB_le {L D : List Int} (hL : ∀ x ∈ L, 0 ≤ x ∧ x ≤ 15) (hD : ∀ x ∈ D, 0 ≤ x ∧ x ≤ 15) {l : List Tok} (ht : ∀ t ∈ l, TokOk t) : (toksB L D l).length ≤ 48 * l.length :=
  flat_le l fun t h => tbits_le hL hD (ht t h)
theorem bodyB_le {L D : List Int} (hL : ∀ x ∈ L, 0 ≤ x ∧ x ≤ 15) (hD : ∀ x ∈ D, 0 ≤ x ∧ x ≤ 15) {l : List Tok} (ht : ∀ t ∈ l, TokOk t) : (bodyB L D l).length ≤ 48 * l.length + 15 := by
  have h1 := toksB_le hL hD ht
  have h2 := cbits_le hL 256
  unfold bodyB
  rw [List.length_append]
  omega
theorem fixL_ok : fixL.length = 288 ∧ cerrF fixL = 0 ∧ terrF fixL = 0 := by decide +kernel
theorem fixD_ok : fixD.length = 32 ∧ cerrF fixD = 0 ∧ terrF fixD = 0 := by decide +kernel
theorem fixL_bd : ∀ x ∈ fixL, 0 ≤ x ∧ x ≤ 15 := by decide +kernel
theorem fixD_bd : ∀ x ∈ fixD, 0 ≤ x ∧ x ≤ 15 := by decide +kernel
theorem fixL_pos : ∀ s : Fin 288, 0 < fixL.getD s.1 0 := by decide +kernel
theorem fixD_pos : ∀ s : Fin 32, 0 < fixD.getD s.1 0 := by decide +kernel
end Go.Proofs.Yteoecchggjmffaa
/- flate: the walks of what tells symbols. -/
namespace Go.Proofs.Yteoecchggjmffaa
open Go.RowKit

theorem exN_le (st n : Nat) : ∀ f e, exN st n f e ≤ e + f := by
  intro f
  induction f with
  | zero => intro e; simp [exN]
  | succ f ih =>
    intro e
    rw [exN]
    split
    · have := ih (e + 1); omega
    · omega
/-- A number below 2^20 has fewer than 20 bits more. -/
theorem ex_stop {st n e : Nat} (hn : n < 1048576) (he : 2 ^ (st + 1) ≤ n / 2 ^ e) : e < 20 := by
  rcases Nat.lt_or_ge e 20 with h | h
  · exact h
  · have h1 : 2 ^ 20 ≤ 2 ^ e := Nat.pow_le_pow_right (by omega) h
    have : n / 2 ^ e = 0 := Nat.div_eq_of_lt (by have : (2 : Nat) ^ 20 = 1048576 := rfl; omega)
    have h2 : 0 < 2 ^ (st + 1) := Nat.pow_pos (by omega)
    omega

theorem len_sym_le : ∀ x : Fin 256, (lenSym (x.1 + 3)).1 ≤ 285 := by decide +kernel

set_option maxRecDepth 100000 in
theorem band_any (n st : Nat) (hn : n < 1048576) (hst : st = 1 ∨ st = 2) (w : World) :
    Calls Try.prog 29 #[.int .i64 n, .int .i64 st] w (Ret fun r w' => r = .tuple #[.int .i64 (bandF st n).1, .int .i64 (bandF st n).2.1, .int .i64 (bandF st n).2.2] ∧ Own w w' []) := by
  have H := Own.start w
  obtain ⟨x, hx⟩ : ∃ x, Hid (exF st n = x) := ⟨_, rfl⟩
  obtain ⟨b1, b2, b3, hB⟩ : ∃ b1 b2 b3, Hid (bandF st n = (b1, b2, b3)) := ⟨_, _, _, rfl⟩
  have hP : Hid (b1 = x * 2 ^ st + n / 2 ^ x ∧ b2 = x ∧ b3 = n % 2 ^ x) := Lib.hid (by have h := hB.out; unfold bandF at h; rw [hx.out] at h; simp only [Prod.mk.injEq] at h; exact ⟨h.1.symm, h.2.1.symm, h.2.2.symm⟩)
  rw [hB.out]
  obtain ⟨c, hc⟩ : ∃ c : Int, Hid ((2 : Int) * 2 ^ st = c) := ⟨_, rfl⟩
  have hcw : IntKind.i64.wrap ((2 : Int) * 2 ^ st) = c := by rw [hc.out, ← hc.out]; rcases hst with rfl | rfl <;> rfl
  have hcn : Hid (c = ((2 ^ (st + 1) : Nat) : Int)) := Lib.hid (by rw [← hc.out]; rcases hst with rfl | rfl <;> rfl)
  have hst1 : (st : Int) < 64 := by omega
  have hst0 : ¬ (st : Int) < 0 := by omega
  go_enter Try.func29, Try.ntmps29
  go_wp2_with fail
  go_loopw [7] (fun s7 wx => ∃ e : Nat, s7 = .int .i64 e ∧ e ≤ 20 ∧ Hid (exN st n (64 - e) e = x) ∧ Own w wx []) (fun s7 _ => 20 - (intOf s7).toNat)
  case atStart => exact ⟨0, by go_num, by omega, Lib.hid hx.out, H⟩
  case round =>
    clear H
    obtain ⟨e, rfl, he, hex, H⟩ := hrel
    obtain ⟨q, hq⟩ : ∃ q : Nat, Hid (n / 2 ^ e = q) := ⟨_, rfl⟩
    have hqi : (n : Int) / 2 ^ e = (q : Int) := by
      rw [← hq.out, Int.natCast_ediv, Int.natCast_pow]; rfl
    have heI : (e : Int) < 64 := by omega
    go_upto_region 2 with (fail)
    refine wp_region_calm (fun w1 => Own w w1 []) 5 (by kernel_rfl) (by kernel_rfl) H.drew ?_
    simp only [List.take_succ_cons, List.take_zero, List.drop_succ_cons, List.drop_zero]
    repeat
      first
      | (refine calm_value (v := ?_) (by decide) rfl (fun σ w1 hS => ?_) ?_
         rotate_left
         · skip
           first | (go_simp; rfl) | rfl
         simp only [Act.put, List.setIfInBounds_toArray, List.set_cons_zero, List.set_cons_succ])
      | (refine calm_skip (by decide) rfl ?_
         simp only [Act.put, List.setIfInBounds_toArray, List.set_cons_zero, List.set_cons_succ])
    refine calm_nil ?_
    intro wd HD
    clear H
    have hex2 := hex.out
    rw [show 64 - e = (64 - (e + 1)) + 1 by omega, exN, hq.out] at hex2
    by_cases hlt : 2 ^ (st + 1) ≤ q
    · have hcq : c ≤ (q : Int) := by rw [hcn.out]; exact Int.ofNat_le.2 hlt
      rw [if_pos hlt] at hex2
      have he20 := ex_stop hn (by rw [hq.out]; exact hlt)
      have HEX := Lib.hid hex2
      clear hex2 hex hlt
      go_wp2_with fail
      go_roundw
      case rel => exact ⟨e + 1, by go_num, by omega, HEX, HD⟩
      case measure => simp [intOf]; omega
    · have hcq : ¬ c ≤ (q : Int) := by rw [hcn.out]; exact fun h => hlt (Int.ofNat_le.1 h)
      rw [if_neg hlt] at hex2
      subst hex2
      clear hex hlt
      obtain ⟨r, hr⟩ : ∃ r : Nat, Hid (n % 2 ^ e = r) := ⟨_, rfl⟩
      have hri : bits .and .i64 (n : Int) ((2 : Int) ^ e - 1) = (r : Int) := by
        have h1 := i64_and_mask (n : Int) e (by omega)
        have h2 : ((2 ^ e - 1 : Nat) : Int) = (2 : Int) ^ e - 1 := by
          have : 0 < 2 ^ e := Nat.pow_pos (by omega)
          rw [Int.natCast_sub (by omega), Int.natCast_pow]; rfl
        rw [h2] at h1
        rw [h1, ← hr.out, Int.natCast_emod]
      obtain ⟨p, hp⟩ : ∃ p : Nat, Hid (e * 2 ^ st = p) := ⟨_, rfl⟩
      have hp80 : p ≤ 80 := by
        rw [← hp.out]
        rcases hst with rfl | rfl <;> omega
      have hpi : (e : Int) * 2 ^ st = (p : Int) := by rw [← hp.out, Int.natCast_mul, Int.natCast_pow]; rfl
      have hq20 : q ≤ 1048576 := by rw [← hq.out]; exact Nat.le_trans (Nat.div_le_self _ _) (by omega)
      have hpw : IntKind.i64.wrap ((p : Int)) = (p : Int) := IntWalk.i64_in _ ⟨by omega, by omega⟩
      have hpq : IntKind.i64.wrap ((p : Int) + (q : Int)) = ((p + q : Nat) : Int) := by rw [Int.natCast_add]; exact IntWalk.i64_in _ ⟨by omega, by omega⟩
      have h2e : IntKind.i64.wrap ((2 : Int) ^ e) = (2 : Int) ^ e ∧ IntKind.i64.wrap ((2 : Int) ^ e - 1) = (2 : Int) ^ e - 1 := by
        obtain ⟨m, hm, h1, h2⟩ : ∃ m : Nat, (2 : Int) ^ e = m ∧ 1 ≤ m ∧ m ≤ 2 ^ 20 := ⟨2 ^ e, by rw [Int.natCast_pow]; rfl, Nat.pow_pos (by omega), Nat.pow_le_pow_right (by omega) he⟩
        rw [hm]
        exact ⟨IntWalk.i64_in _ ⟨by omega, by omega⟩, IntWalk.i64_in _ ⟨by omega, by omega⟩⟩
      obtain ⟨h2e1, h2e2⟩ := h2e
      have e1 : Hid (b1 = p + q ∧ b2 = e ∧ b3 = r) := Lib.hid (by rw [← hp.out, ← hq.out, ← hr.out]; exact hP.out)
      clear hP hB
      go_upto_region 4 with (fail)
      refine wp_region_calm (fun w1 => Own w w1 []) 15 (by kernel_rfl) (by kernel_rfl) HD.drew ?_
      simp only [List.take_succ_cons, List.take_zero, List.drop_succ_cons, List.drop_zero]
      repeat
        first
        | (refine calm_value (v := ?_) (by decide) rfl (fun σ w1 hS => ?_) ?_
           rotate_left
           · skip
             first | (go_simp; rfl) | rfl
           simp only [Act.put, List.setIfInBounds_toArray, List.set_cons_zero, List.set_cons_succ])
        | (refine calm_skip (by decide) rfl ?_
           simp only [Act.put, List.setIfInBounds_toArray, List.set_cons_zero, List.set_cons_succ])
      refine calm_nil ?_
      intro we HE
      clear HD
      go_wp2_with fail
      go_ret3
      exact ⟨_, rfl, by rw [e1.out.1, e1.out.2.1, e1.out.2.2]; rfl, HE⟩

theorem length_any (n : Nat) (hn : 3 ≤ n) (hn2 : n ≤ 258) (w : World) :
    Calls Try.prog 10 #[.int .i64 n] w (Ret fun r w' => r = .tuple #[.int .i64 (lenSym n).1, .int .i64 (lenSym n).2.1, .int .i64 (lenSym n).2.2] ∧ Own w w' []) := by
  have H := Own.start w
  obtain ⟨b1, b2, b3, hB⟩ : ∃ b1 b2 b3, Hid (lenSym n = (b1, b2, b3)) := ⟨_, _, _, rfl⟩
  rw [hB.out]
  by_cases h1 : n = 258
  · subst h1
    have hB2 : (285, 0, 0) = (b1, b2, b3) := hB.out
    cases hB2
    go_enter Try.func10, Try.ntmps10
    go_wp2_with fail
    go_ret3
    exact ⟨_, rfl, rfl, H⟩
  · have h1b : ((n : Int) == 258) = false := by simp; omega
    by_cases h2 : n < 11
    · have h2I : (n : Int) < 11 := by omega
      have hB2 : Hid (254 + n = b1 ∧ 0 = b2 ∧ 0 = b3) := Lib.hid (by have h := hB.out; unfold lenSym at h; rw [if_neg h1, if_pos h2] at h; simp only [Prod.mk.injEq] at h; exact h)
      have hw : IntKind.i64.wrap (254 + (n : Int)) = 254 + (n : Int) := IntWalk.i64_in _ ⟨by omega, by omega⟩
      clear hB h1
      go_enter Try.func10, Try.ntmps10
      go_wp2_with fail
      go_ret3
      exact ⟨_, rfl, by rw [← hB2.out.1, ← hB2.out.2.1, ← hB2.out.2.2]; rfl, H⟩
    · have h2I : ¬ (n : Int) < 11 := by omega
      obtain ⟨c1, c2, c3, hC⟩ : ∃ c1 c2 c3, Hid (bandF 2 (n - 3) = (c1, c2, c3)) := ⟨_, _, _, rfl⟩
      have hB2 : Hid (257 + c1 = b1 ∧ c2 = b2 ∧ c3 = b3) := Lib.hid (by have h := hB.out; unfold lenSym at h; rw [if_neg h1, if_neg h2, hC.out] at h; simp only [Prod.mk.injEq] at h; exact h)
      have hc := band_any (n - 3) 2 (by omega) (.inr rfl)
      rw [hC.out] at hc
      rw [show ((n - 3 : Nat) : Int) = (n : Int) - 3 by omega, show ((2 : Nat) : Int) = 2 from rfl] at hc
      have HC := Lib.hid hc
      have hc1 : c1 ≤ 300 := by
        have h := hB2.out.1
        have : b1 ≤ 285 := by
          have h3 := len_sym_le ⟨n - 3, by omega⟩
          simp only [show n - 3 + 3 = n by omega, hB.out] at h3
          exact h3
        omega
      have hw : IntKind.i64.wrap ((c1 : Int) + 257) = (c1 : Int) + 257 := IntWalk.i64_in _ ⟨by omega, by omega⟩
      clear hB h1 hc
      go_enter Try.func10, Try.ntmps10
      go_wp2_with fail
      refine (HC.out _).mono ?_
      rintro e w2 ⟨_, rfl, rfl, H2⟩
      have H := H.join H2
      go_wp2_with fail
      go_ret3
      exact ⟨_, rfl, by rw [← hB2.out.1, ← hB2.out.2.1, ← hB2.out.2.2]; rfl, H⟩
theorem dist_any (n : Nat) (hn : 1 ≤ n) (hn2 : n ≤ 32768) (w : World) :
    Calls Try.prog 12 #[.int .i64 n] w (Ret fun r w' => r = .tuple #[.int .i64 (distSym n).1, .int .i64 (distSym n).2.1, .int .i64 (distSym n).2.2] ∧ Own w w' []) := by
  have H := Own.start w
  obtain ⟨b1, b2, b3, hB⟩ : ∃ b1 b2 b3, Hid (distSym n = (b1, b2, b3)) := ⟨_, _, _, rfl⟩
  rw [hB.out]
  by_cases h2 : n < 5
  · have h2I : (n : Int) < 5 := by omega
    have hB2 : Hid (n - 1 = b1 ∧ 0 = b2 ∧ 0 = b3) := Lib.hid (by have h := hB.out; unfold distSym at h; rw [if_pos h2] at h; simp only [Prod.mk.injEq] at h; exact h)
    have hB3 : Hid ((b1 : Int) = (n : Int) - 1) := Lib.hid (by have := hB2.out.1; omega)
    clear hB
    go_enter Try.func12, Try.ntmps12
    go_wp2_with fail
    go_ret3
    exact ⟨_, rfl, by rw [hB3.out, ← hB2.out.2.1, ← hB2.out.2.2]; rfl, H⟩
  · have h2I : ¬ (n : Int) < 5 := by omega
    have hc := band_any (n - 1) 1 (by omega) (.inl rfl)
    have hd : distSym n = bandF 1 (n - 1) := by unfold distSym; rw [if_neg h2]
    rw [← hd, hB.out, show ((n - 1 : Nat) : Int) = (n : Int) - 1 by omega, show ((1 : Nat) : Int) = 1 from rfl] at hc
    have HC := Lib.hid hc
    clear hB hc hd
    go_enter Try.func12, Try.ntmps12
    go_wp2_with fail
    refine (HC.out _).mono ?_
    rintro e w2 ⟨_, rfl, rfl, H2⟩
    have H := H.join H2
    go_wp2_with fail
    go_ret3
    exact ⟨_, rfl, rfl, H⟩
end Go.Proofs.Yteoecchggjmffaa
/- huff: the walks of counts and left. -/
namespace Go.Proofs.Yteoecchggjmffaa
open Go.RowKit


theorem results_cell2 {P : Program} {fn : Func} {p u : Tmp} {ty : TypeId} (h : fn.results = #[.cell p ty, .tmp u]) (tmps : Array Value) (w : World) (g : Nat) (t : TypeId) (cs : Array Value) (fr : Nat × Nat) (d : TypeDesc)
    (hp : tmps.getD p undef = .pointer (some ⟨g, 0, none⟩)) (hg : w.heap[g]? = some (.cells cs t fr))
    (hu : P.underlying ty = some d) (hd : (match d with | .struct _ | .array _ _ => true | _ => false) = true) (hi : (P.info? ty).map (·.size) = some cs.size) :
    (results fn tmps).run P w = .ok (.tuple #[.agg cs, tmps.getD u undef]) w := by
  rw [results_cell_tmp h, hp]
  simp [asAddr, run_loadVar_row w g t ty cs fr d hg hu hd hi, Result.andThen]
theorem arrInfo (cs : List Int) (h : cs.length = 16) : (Try.prog.info? 99).map (·.size) = some (nums cs).toArray.size := by
  rw [List.size_toArray, nums_length, h]
  kernel_rfl
section
variable {w0 w : World} {ps : List Piece} {ops : Array Oper} {rest : List Oper} {o : Oper} {a : Act} {Q : Exit → Act → World → Prop}
/-- A whole array of 16 is read. -/
theorem wpList_load16 (hgd : o.guard = none) (x : Operand) (ho : o.op = .load 99 x) {g : Nat} (hx : a.eval x = .pointer (some ⟨g, 0, none⟩)) {cs : List Int} (hl : cs.length = 16) (H : Own w0 w (blk g (.cells (nums cs).toArray 99) :: ps))
    (h : wpList Try.prog ops Q rest (a.put o.dst (.agg (nums cs).toArray)) w) : wpList Try.prog ops Q (o :: rest) a w :=
  wpList_load_row hgd 99 x ho g hx 99 (nums cs).toArray (0, 0) _ H.block.1 Try.underlying99 rfl (arrInfo cs hl) h
/-- A whole array of 16 is stored. -/
theorem wpList_store16 (hgd : o.guard = none) (x y : Operand) (ho : o.op = .store 99 x y) {g : Nat} (hx : a.eval x = .pointer (some ⟨g, 0, none⟩)) {cs ds : List Int} (hl : cs.length = 16) (hd : ds.length = 16)
    (H : Own w0 w (blk g (.cells (nums cs).toArray 99) :: ps)) (hv : a.eval y = .agg (nums ds).toArray)
    (h : ∀ w', Own w0 w' (blk g (.cells (nums ds).toArray 99) :: ps) → wpList Try.prog ops Q rest (a.put o.dst undef) w') : wpList Try.prog ops Q (o :: rest) a w :=
  wpList_store_agg hgd x y ho hx H hv (by have := arrInfo ds hd; rw [List.size_toArray] at this; exact this) (by rw [List.size_toArray, nums_length, nums_length, hl, hd]; omega) (nums_one ds) (store_whole _ _ (by rw [nums_length, nums_length, hl, hd])) h
end

set_option maxHeartbeats 3200000 in
theorem counts_any {w : World} {v : Value} {n : Nat} {F : List Int} (hr : Rd w 1 v n (nums F)) (hn : n ≤ 1000000) :
    Calls Try.prog 71 #[v] w (Ret fun r w' => (∃ cs : List Int, cs.length = 16 ∧ r = .tuple #[.agg (nums cs).toArray, .bool (mayF F)] ∧ (mayF F = true → cs = countsF F)) ∧ Own w w' []) := by
  have hl := Lib.hid (rd_len hr)
  obtain ⟨a, c, rfl, hc1, hc2⟩ := hr.shape
  have HR := Lib.hid hr
  obtain ⟨Z, hZ⟩ : ∃ Z, Hid (mayF F = Z) := ⟨_, rfl⟩
  rw [hZ.out]
  clear hr
  have H := (Own.start w).alloc2 (.cells (nums (zerosF 16)).toArray 99) (.cells (nums (zerosF 16)).toArray 99)
  rw [arr_zero] at H
  go_enter Try.func71, Try.ntmps71
  go_upto_region 2 with (fail)
  generalize (w.alloc _).alloc _ = wa at *
  rw [← arr_zero] at H
  obtain ⟨cb, hcb⟩ : ∃ g, w.heap.size + 1 = g := ⟨_, rfl⟩
  rw [hcb] at H ⊢
  generalize w.heap.size = rb at *
  clear hcb
  have hzl : (zerosF 16).length = 16 := by simp [zerosF]
  by_cases h320 : 320 < n
  · have e : Hid (Z = false) := Lib.hid (by
      rw [← hZ.out]; unfold mayF
      have := hl.out
      rw [decide_eq_false (by omega), Bool.false_and])
    have hI : (320 : Int) < (n : Int) := by omega
    go_wp2_with (first
      | (refine wpList_load16 rfl _ rfl rfl hzl H ?_)
      | (refine wpList_store16 rfl _ _ rfl rfl hzl hzl H.swap rfl ?_; clear H; intro w2 H))
    refine bodyPost_ret (results_cell2 rfl _ _ rb _ _ _ _ rfl H.block.1 Try.underlying99 rfl (arrInfo _ hzl)) rfl ?_
    exact ⟨_, rfl, ⟨_, hzl, by rw [e.out]; rfl, fun h => by rw [e.out] at h; cases h⟩, H.bare⟩
  · have hI : ¬ (320 : Int) < (n : Int) := by omega
    go_wp2_with fail
    go_loopw [13] (fun s13 wx => ∃ i : Nat, s13 = .int .i64 i ∧ i ≤ n ∧ Hid ((F.take i).all okLen = true) ∧ Own w wx [blk cb (.cells (nums (bumpF (zerosF 16) (F.take i))).toArray 99), blk rb (.cells (nums (zerosF 16)).toArray 99)]) (fun s13 _ => n - (intOf s13).toNat)
    case atStart => exact ⟨0, by go_num, by omega, Lib.hid rfl, by simpa [bumpF] using H⟩
    case round =>
      clear H
      obtain ⟨i, rfl, hi, hal, H⟩ := hrel
      have hbl : (bumpF (zerosF 16) (F.take i)).length = 16 := by rw [bumpF_length]; exact hzl
      by_cases hlt : i < n
      · have hI2 : (i : Int) < (n : Int) := by omega
        have hs := all_take_succ (p := okLen) (F := F) (i := i) (by have := hl.out; omega)
        have hbt : bumpF (zerosF 16) (F.take (i + 1)) = bump1 (bumpF (zerosF 16) (F.take i)) (F.getD i 0) := bump_take (getD_get (by have := hl.out; omega))
        have hbb := fun j => bump_bound (F.take i) (zerosF 16) j 0 (fun j => by rw [zeros_get]; omega)
        have hll : (F.take i).length ≤ 1000000 := by rw [List.length_take]; omega
        obtain ⟨b, o, rfl, c1⟩ := rd_at HR.out H hlt
        have hbad : okLen (F.getD i 0) = false → Hid (Z = false) := fun h => Lib.hid (by
          rw [← hZ.out]
          unfold mayF
          have : F.all okLen = false := by
            rw [List.all_eq_false]
            refine ⟨F.getD i 0, ?_, by rw [h]; simp⟩
            rw [List.getD_eq_getElem?_getD, List.getElem?_eq_getElem (by have := hl.out; omega)]
            exact List.getElem_mem _
          rw [this, Bool.and_false])
        rw [hal.out, Bool.true_and] at hs
        generalize F.getD i 0 = x at *
        generalize hcs : bumpF (zerosF 16) (F.take i) = cs at *
        by_cases h0 : x < 0
        · have e := hbad (by simp [okLen]; omega)
          clear hs hbad hbt hbb
          go_wp2_with (first
            | (refine wpList_load16 rfl _ rfl rfl hbl H ?_)
            | (refine wpList_store16 rfl _ _ rfl rfl hzl hbl H.swap rfl ?_; clear H; intro w2 H))
          refine bodyPost_ret (results_cell2 rfl _ _ rb _ _ _ _ rfl H.block.1 Try.underlying99 rfl (arrInfo _ hbl)) rfl ?_
          exact ⟨_, rfl, ⟨_, hbl, by rw [e.out]; rfl, fun h => by rw [e.out] at h; cases h⟩, H.bare⟩
        · by_cases h15 : 15 < x
          · have e := hbad (by simp [okLen]; omega)
            clear hs hbad hbt hbb
            go_wp2_with (first
              | (refine wpList_load16 rfl _ rfl rfl hbl H ?_)
              | (refine wpList_store16 rfl _ _ rfl rfl hzl hbl H.swap rfl ?_; clear H; intro w2 H))
            refine bodyPost_ret (results_cell2 rfl _ _ rb _ _ _ _ rfl H.block.1 Try.underlying99 rfl (arrInfo _ hbl)) rfl ?_
            exact ⟨_, rfl, ⟨_, hbl, by rw [e.out]; rfl, fun h => by rw [e.out] at h; cases h⟩, H.bare⟩
          · have e : Hid ((F.take (i + 1)).all okLen = true) := Lib.hid (by rw [hs]; simp [okLen]; omega)
            obtain ⟨m, rfl⟩ : ∃ m : Nat, x = m := ⟨x.toNat, by omega⟩
            have hb1 := hbb m
            have c0 := H.cells m
            rw [arr_get (by omega)] at c0
            have hst : (nums cs).toArray.setIfInBounds m (.int .i64 (cs.getD m 0 + 1)) = (nums (bump1 cs m)).toArray := arr_set _ _ _
            obtain ⟨y, hy⟩ : ∃ y, Hid (cs.getD m 0 = y) := ⟨_, rfl⟩
            rw [hy.out] at c0 hst hb1
            have hyw : IntKind.i64.wrap (y + 1) = y + 1 := IntWalk.i64_in _ ⟨by omega, by omega⟩
            have hmI : (m : Int) < 16 := by omega
            have HST := Lib.hid hst
            have HBT := Lib.hid hbt
            have hfit : m < (nums cs).toArray.size := by rw [List.size_toArray, nums_length]; omega
            clear hs hbad hbt hbb hst hb1
            go_wp2_with (refine wpList_store_int rfl _ _ rfl rfl H rfl (by kernel_rfl) hfit ?_; clear H c0; intro w2 H; rw [HST.out] at H)
            go_roundw
            case rel => exact ⟨i + 1, by go_num, by omega, e, by rw [HBT.out]; exact H⟩
            case measure => simp [intOf]; omega
      · obtain rfl : i = n := by omega
        have hI2 : ¬ (i : Int) < (i : Int) := by omega
        have e : Hid (Z = true) := Lib.hid (by
          rw [← hZ.out]; unfold mayF
          have h1 := hal.out
          rw [List.take_of_length_le (by have := hl.out; omega)] at h1
          rw [h1, Bool.and_true, hl.out]
          simp; omega)
        have hst : (nums (bumpF (zerosF 16) (F.take i))).toArray.setIfInBounds 0 (.int .i64 0) = (nums (countsF F)).toArray := by
          rw [arr_set, List.take_of_length_le (by have := hl.out; omega)]; rfl
        have hcl : (countsF F).length = 16 := by unfold countsF; rw [List.length_set, bumpF_length]; exact hzl
        have HST := Lib.hid hst
        have hfit : 0 < (nums (bumpF (zerosF 16) (F.take i))).toArray.size := by rw [List.size_toArray, nums_length]; omega
        clear hst
        go_wp2_with (first
          | (refine wpList_load16 rfl _ rfl rfl hcl H ?_)
          | (refine wpList_store_int rfl _ _ rfl rfl H rfl (by kernel_rfl) hfit ?_; clear H; intro w2 H; rw [HST.out] at H)
          | (refine wpList_store16 rfl _ _ rfl rfl hzl hcl H.swap rfl ?_; clear H; intro w2 H))
        refine bodyPost_ret (results_cell2 rfl _ _ rb _ _ _ _ rfl H.block.1 Try.underlying99 rfl (arrInfo _ hcl)) rfl ?_
        exact ⟨_, rfl, ⟨_, hcl, by rw [e.out]; rfl, fun _ => rfl⟩, H.bare⟩


set_option maxHeartbeats 1600000 in
theorem left_any {w : World} {cs : List Int} (hl : cs.length = 16) (hb : ∀ k, 0 ≤ cs.getD k 0 ∧ cs.getD k 0 ≤ 1000000) :
    Calls Try.prog 72 #[.agg (nums cs).toArray] w (Ret fun r w' => r = .int .i64 (leftF cs) ∧ Own w w' []) := by
  obtain ⟨Z, hZ⟩ : ∃ Z, Hid (leftF cs = Z) := ⟨_, rfl⟩
  rw [hZ.out]
  have HB := Lib.hid hb
  have H := (Own.start w).alloc (.cells (nums cs).toArray 99)
  clear hb
  go_enter Try.func72, Try.ntmps72
  go_upto_region 2 with (fail)
  generalize w.alloc (.cells (nums cs).toArray 99) = wa at *
  generalize w.heap.size = b at *
  go_wp2_with fail
  go_loopw [3, 8] (fun s3 s8 wx => ∃ (j : Nat) (n : Int), s8 = .int .i64 j ∧ j ≤ 15 ∧ s3 = .int .i64 n ∧ 0 ≤ n ∧ Hid (n ≤ ((2 ^ j : Nat) : Int)) ∧ Hid (leftL n (cs.drop (1 + j)) = Z) ∧ Own w wx [blk b (.cells (nums cs).toArray 99)]) (fun _ s8 _ => 15 - (intOf s8).toNat)
  case atStart => exact ⟨0, 1, by go_num, by omega, by go_num, by omega, Lib.hid (by simp), Lib.hid hZ.out, H⟩
  case round =>
    clear H
    obtain ⟨j, n, rfl, hj, rfl, hn, hn2, hlf, H⟩ := hrel
    have hn3 : n ≤ 32768 := by
      have h1 := hn2.out
      have h2 : (2 ^ j : Nat) ≤ 2 ^ 15 := Nat.pow_le_pow_right (by omega) hj
      omega
    by_cases hlt : j < 15
    · have hI : (j : Int) < 15 := by omega
      have c0 := H.cells (1 + j)
      rw [arr_get (by omega)] at c0
      have hk := HB.out (1 + j)
      have hd : cs.drop (1 + j) = cs.getD (1 + j) 0 :: cs.drop (1 + (j + 1)) := by
        rw [List.drop_eq_getElem_cons (by omega), List.getD_eq_getElem?_getD, List.getElem?_eq_getElem (by omega)]
        rfl
      have hlf2 := hlf.out
      rw [hd, leftL] at hlf2
      generalize cs.getD (1 + j) 0 = k at *
      have hw1 : IntKind.i64.wrap (2 * n) = 2 * n := IntWalk.i64_in _ ⟨by omega, by omega⟩
      have hw2 : IntKind.i64.wrap (2 * n - k) = 2 * n - k := IntWalk.i64_in _ ⟨by omega, by omega⟩
      by_cases hneg : 2 * n - k < 0
      · rw [if_pos hneg] at hlf2
        have e := Lib.hid hlf2.symm
        clear hlf2 hd hlf
        go_wp2_with fail
        go_ret
        exact ⟨_, rfl, by rw [e.out]; rfl, H.bare⟩
      · rw [if_neg hneg] at hlf2
        have e := Lib.hid hlf2
        have hp : Hid (2 * n - k ≤ ((2 ^ (j + 1) : Nat) : Int)) := Lib.hid (by
          have := hn2.out
          rw [Nat.pow_succ]
          omega)
        clear hlf2 hd hlf hn2
        go_wp2_with fail
        go_roundw
        case rel => exact ⟨j + 1, 2 * n - k, by go_num, by omega, by go_num, by omega, hp, e, H⟩
        case measure => simp [intOf]; omega
    · obtain rfl : j = 15 := by omega
      have e : Hid (n = Z) := Lib.hid (by
        have := hlf.out
        rw [List.drop_eq_nil_of_le (by omega)] at this
        exact this)
      clear hlf
      go_wp2_with fail
      go_ret
      exact ⟨_, rfl, by rw [← e.out]; rfl, H.bare⟩
end Go.Proofs.Yteoecchggjmffaa
/- huff: the walk of Codes. -/
namespace Go.Proofs.Yteoecchggjmffaa
open Go.RowKit


set_option maxRecDepth 100000 in
set_option maxHeartbeats 6400000 in
theorem codes_any {w : World} {v : Value} {n : Nat} {F : List Int} (hr : Rd w 1 v n (nums F)) (hn : n ≤ 1000000) :
    Calls Try.prog 58 #[v] w (Ret fun r w' => ∃ ov, r = .tuple #[ov, .int .i64 (cerrF F)] ∧ Own w w' [slc 3 1 ov (cresF F).length (nums (cresF F))]) := by
  have hl := Lib.hid (rd_len hr)
  obtain ⟨a, c, rfl, hc1, hc2⟩ := hr.shape
  have HR := Lib.hid hr
  obtain ⟨er, her⟩ : ∃ er, Hid (cerrF F = er) := ⟨_, rfl⟩
  obtain ⟨R, hRes⟩ : ∃ R, Hid (cresF F = R) := ⟨_, rfl⟩
  rw [her.out, hRes.out]
  obtain ⟨RL, hRL⟩ : ∃ RL, Hid (R.length = RL) := ⟨_, rfl⟩
  rw [hRL.out]
  obtain ⟨Z, hZ⟩ : ∃ Z, Hid (mayF F = Z) := ⟨_, rfl⟩
  have HC := Lib.hid (counts_any hr hn)
  rw [hZ.out] at HC
  clear hr
  have hnil : er ≠ 0 → R = [] ∧ RL = 0 := fun h => by
    have : R = [] := by rw [← hRes.out]; unfold cresF; rw [her.out, if_neg h]
    exact ⟨this, by rw [← hRL.out, this]; rfl⟩
  have HNIL := Lib.hid hnil
  clear hnil
  have hzl : (zerosF 16).length = 16 := by simp [zerosF]
  go_enter Try.func58, Try.ntmps58
  go_wp2_with fail
  refine HC.out.mono ?_
  rintro e w1 ⟨_, rfl, ⟨cs, hcs, rfl, hcs2⟩, H1⟩
  have HCS := Lib.hid hcs2
  have H := H1.alloc (.cells (nums (zerosF 16)).toArray 99)
  rw [arr_zero] at H
  clear hcs2 HC H1
  go_upto_region 2 with (first
    | (generalize w1.alloc _ = wa at *; rw [← arr_zero] at H; generalize w1.heap.size = cb at *; refine wpList_store16 rfl _ _ rfl rfl hzl hcs H rfl ?_; clear H; intro w2 H))
  cases Z with
  | false =>
    have e1 : Hid (er = 1) := Lib.hid (by rw [← her.out]; unfold cerrF; rw [hZ.out]; rfl)
    obtain ⟨e2, e3⟩ := HNIL.out (by rw [e1.out]; decide)
    subst e3
    have E2 := Lib.hid e2
    clear e2
    go_wp2_with fail
    go_ret2
    refine ⟨_, rfl, _, by rw [e1.out]; rfl, ?_⟩
    rw [E2.out]
    exact H.bare.nil 3 1
  | true =>
    have hm := mayF_len hZ.out
    have hcs2 := HCS.out rfl
    subst hcs2
    have hF := hm.2
    have hn3 : n ≤ 320 := by have := hm.1; have := hl.out; omega
    have hlw := left_law hF
    have hcb : ∀ k, 0 ≤ (countsF F).getD k 0 ∧ (countsF F).getD k 0 ≤ 1000000 := by
      intro k
      rcases Nat.lt_or_ge k 16 with h | h
      · rw [counts_get hF k h]
        unfold cntC
        split
        · omega
        · have := cntL_le F k; have := hl.out; omega
      · rw [List.getD_eq_getElem?_getD, List.getElem?_eq_none (by rw [counts_length]; exact h)]; simp
    have HL := Lib.hid (fun w => left_any (w := w) hcs hcb)
    have HF := Lib.hid hF
    have HCB := Lib.hid hcb
    clear hm hF hcb
    by_cases hw : sumF wtF F ≤ 2 ^ 15
    · rw [if_pos hw] at hlw
      have e1 : Hid (er = 0) := Lib.hid (by rw [← her.out]; unfold cerrF; rw [hZ.out, if_pos rfl, if_pos hw])
      have e2 : Hid (codesF F = R) := Lib.hid (by rw [← hRes.out]; unfold cresF; rw [her.out, e1.out]; rfl)
      have HW := Lib.hid hw
      obtain ⟨lf, hlf⟩ : ∃ lf, Hid (leftF (countsF F) = lf) := ⟨_, rfl⟩
      rw [hlf.out] at hlw HL
      have hlf0 : ¬ lf < 0 := by omega
      have hRl : n = RL := by rw [← hRL.out, ← e2.out, codesF_length]; exact hl.out.symm
      subst hRl
      clear hw hlw
      go_wp2_with (refine wpList_load16 rfl _ rfl rfl hcs H ?_)
      refine (HL.out _).mono ?_
      rintro e w3 ⟨_, rfl, rfl, H1⟩
      have H := H.join H1
      clear H1
      have H := H.alloc (.cells (nums (zerosF 16)).toArray 99)
      rw [arr_zero] at H
      go_upto_region 7 with (fail)
      generalize w3.alloc _ = wa at *
      rw [← arr_zero] at H
      generalize w3.heap.size = nb at *
      go_wp2_with fail
      go_loopw [7] (fun s7 wx => ∃ (k : Nat) (nx : List Int), s7 = .int .i64 k ∧ 1 ≤ k ∧ k ≤ 15 ∧ Hid (nx.length = 16) ∧ Hid (∀ j, j ≤ k → nx.getD j 0 = lowF F j) ∧ Own w wx (blk nb (.cells (nums nx).toArray 99) :: blk cb (.cells (nums (countsF F)).toArray 99) :: [])) (fun s7 _ => 15 - (intOf s7).toNat)
      case atStart => exact ⟨1, zerosF 16, by go_num, by omega, by omega, Lib.hid hzl, Lib.hid (fun j h => by
        rw [zeros_get]
        rcases (by omega : j = 0 ∨ j = 1) with rfl | rfl
        · rw [lowF_zero]
        · rw [lowF_succ, lowF_zero]; rfl), H⟩
      case round =>
        clear H
        obtain ⟨k, nx, rfl, hk1, hk2, hnl, hnx, H⟩ := hrel
        have hcl := counts_length F
        by_cases hlt : k < 15
        · have hkI : (k : Int) < 15 := by omega
          have hk16 : (k : Int) < 16 := by omega
          have hk17 : (k : Int) + 1 < 16 := by omega
          have hkw : IntKind.i64.wrap ((k : Int) + 1) = (k : Int) + 1 := IntWalk.i64_in _ ⟨by omega, by omega⟩
          have hfit : k + 1 < (nums nx).toArray.size := by rw [List.size_toArray, nums_length]; have := hnl.out; omega
          have g0 : ∀ (ps' : List Piece) (w' : World), Own w w' (blk nb (.cells (nums nx).toArray 99) :: blk cb (.cells (nums (countsF F)).toArray 99) :: ps') → w'.cell? ⟨nb, k, none⟩ = some (.int .i64 (lowF F k)) ∧ w'.cell? ⟨cb, k, none⟩ = some (.int .i64 (cntC F k)) := fun ps' w' h => by
            constructor
            · rw [h.cells, arr_get (by have := hnl.out; omega), hnx.out k (Nat.le_refl _)]
            · rw [h.swap.cells, arr_get (by omega), counts_get HF.out k (by omega)]
          have G0 := Lib.hid g0
          have hlow := lowF_succ F k
          have hroom := low_room HF.out HW.out (k + 1) (by omega)
          have hpk : (2 : Int) ^ (k + 1) ≤ 32768 := by
            have : (2 : Nat) ^ (k + 1) ≤ 2 ^ 15 := Nat.pow_le_pow_right (by omega) (by omega)
            have h2 : ((2 ^ (k + 1) : Nat) : Int) ≤ ((2 ^ 15 : Nat) : Int) := Int.ofNat_le.2 this
            simpa using h2
          have b1 := lowF_nonneg F k
          have b2 := cntC_nonneg F k
          have b3 := cntC_nonneg F (k + 1)
          have hst := arr_set nx (k + 1) (lowF F (k + 1))
          have hnx2 : Hid (∀ j, j ≤ k + 1 → (nx.set (k + 1) (lowF F (k + 1))).getD j 0 = lowF F j) := Lib.hid (fun j hj => by
            rw [List.getD_eq_getElem?_getD, List.getElem?_set]
            by_cases h : k + 1 = j
            · subst h; rw [if_pos rfl, if_pos (by have := hnl.out; omega)]; rfl
            · rw [if_neg h, ← List.getD_eq_getElem?_getD]; exact hnx.out j (by omega))
          have hnl2 : Hid ((nx.set (k + 1) (lowF F (k + 1))).length = 16) := Lib.hid (by rw [List.length_set]; exact hnl.out)
          generalize lowF F (k + 1) = y2 at *
          generalize lowF F k = y at *
          generalize cntC F k = z at *
          generalize cntC F (k + 1) = z2 at *
          generalize (2 : Int) ^ (k + 1) = pw at *
          generalize hnx' : nx.set (k + 1) y2 = nx2 at *
          have HST := Lib.hid hst
          clear hst hnx' hnx g0
          have hs1 : IntKind.i64.wrap (y + z) = y + z := IntWalk.i64_in _ ⟨by omega, by omega⟩
          have hs2 : IntKind.i64.wrap ((y + z) * 2) = y2 := by rw [hlow, Int.mul_comm]; exact IntWalk.i64_in _ ⟨by omega, by omega⟩
          have HLOW := Lib.hid hlow
          clear hlow hroom
          go_upto_region 10 with (fail)
          refine wp_region_calm (fun w1 => Own w w1 (blk nb (.cells (nums nx).toArray 99) :: blk cb (.cells (nums (countsF F)).toArray 99) :: [])) 10 (by kernel_rfl) (by kernel_rfl) H.drew ?_
          simp only [List.take_succ_cons, List.take_zero, List.drop_succ_cons, List.drop_zero]
          repeat
            first
            | (refine calm_value (v := ?_) (by decide) rfl (fun σ w1 hS => ?_) ?_
               rotate_left
               · obtain ⟨c0, c1⟩ := G0.out _ _ hS
                 first | (go_simp; rfl) | rfl
               simp only [Act.put, List.setIfInBounds_toArray, List.set_cons_zero, List.set_cons_succ])
            | (refine calm_skip (by decide) rfl ?_
               simp only [Act.put, List.setIfInBounds_toArray, List.set_cons_zero, List.set_cons_succ])
          refine calm_nil ?_
          intro wd HD
          clear H
          go_wp2_with (refine wpList_store_int rfl _ _ rfl rfl HD rfl (by kernel_rfl) hfit ?_; clear HD; intro w4 H; rw [HST.out] at H)
          go_roundw
          case rel => exact ⟨k + 1, nx2, by go_num, by omega, by omega, hnl2, hnx2, H⟩
          case measure => simp [intOf]; omega
        · have hkI : ¬ (k : Int) < 15 := by omega
          have hk15 : Hid (15 ≤ k) := Lib.hid (by omega)
          have hmk : ∀ w : World, (Instr.makeSlice 26 (.int .i64 n) (.int .i64 n)).run Try.prog w = .ok (.slice (some ⟨w.heap.size, 0, none⟩) n n) (w.alloc (.cells (madeCells #[.int .i64 0] n) 3)) := run_make_row' _ _ _ 8 Try.underlying26 intInfo rfl .i64 .i64 n (by omega) (by omega)
          go_upto_region 12 with (fail)
          clear hmk
          have H := (H.alloc (.cells (madeCells #[.int .i64 0] n) 3)).slc_mk (xs := nums (zerosF n)) (n := n) (size := 1) (by simp [nums, zerosF]) (Nat.le_refl _) (by simp [maxLen]; omega) (by simp [size_madeCells]) (by rw [toList_madeCells_one]; simp [nums, zerosF])
          generalize World.alloc _ (.cells (madeCells #[.int .i64 0] n) 3) = wb at *
          generalize wr.heap.size = og at *
          go_wp2_with fail
          go_loopw [43] (fun s43 wx => ∃ (i : Nat) (ny o : List Int), s43 = .int .i64 i ∧ i ≤ n ∧ Hid (ny.length = 16) ∧ Hid (o.length = n) ∧ Hid (∀ j : Nat, 1 ≤ j → j ≤ 15 → ny.getD j 0 = lowF F j + cntL (F.take i) j) ∧ Hid (∀ s, o.getD s 0 = if s < i then codeF F s else 0) ∧ Own w wx (slc 3 1 (.slice (some ⟨og, 0, none⟩) n n) n (nums o) :: blk nb (.cells (nums ny).toArray 99) :: blk cb (.cells (nums (countsF F)).toArray 99) :: [])) (fun s43 _ => n - (intOf s43).toNat)
          case atStart => exact ⟨0, nx, zerosF n, by go_num, by omega, hnl, Lib.hid (by simp [zerosF]), Lib.hid (fun j h1 h2 => by rw [hnx.out j (by have := hk15.out; omega)]; simp [cntL]), Lib.hid (fun s => by rw [zeros_get, if_neg (by omega)]), H⟩
          case round =>
            clear H hnx hnl
            obtain ⟨i, ny, o, rfl, hi, hnl, hol, hny, ho, H⟩ := hrel
            by_cases hlt : i < n
            · have hI : (i : Int) < (n : Int) := by omega
              obtain ⟨b, oo, rfl, c1⟩ := rd_at HR.out H hlt
              have hx := HF.out (F.getD i 0) (by
                rw [List.getD_eq_getElem?_getD, List.getElem?_eq_getElem (by have := hl.out; omega)]
                exact List.getElem_mem _)
              have hil : i < F.length := by have := hl.out; omega
              by_cases hpos : 0 < F.getD i 0
              · have hcode : codeF F i = lowF F (F.getD i 0).toNat + cntL (F.take i) (F.getD i 0).toNat := by unfold codeF; rw [if_pos hpos]
                obtain ⟨m, hm⟩ : ∃ m : Nat, F.getD i 0 = m := ⟨(F.getD i 0).toNat, by omega⟩
                have hm1 : 1 ≤ m := by omega
                have hm2 : m ≤ 15 := by omega
                have hlt2 := code_lt hil hpos
                have hroom := low_room HF.out HW.out m hm2
                have hpk : (2 : Int) ^ m ≤ 32768 := by
                  have : (2 : Nat) ^ m ≤ 2 ^ 15 := Nat.pow_le_pow_right (by omega) (by omega)
                  have h2 : ((2 ^ m : Nat) : Int) ≤ ((2 ^ 15 : Nat) : Int) := Int.ofNat_le.2 this
                  simpa using h2
                have hcn := code_nonneg (l := F) i
                rw [hm] at hcode hpos hx c1 hlt2
                rw [Int.toNat_natCast] at hcode hlt2
                have hnyv : ny.getD m 0 = codeF F i := by rw [hny.out m hm1 hm2, hcode]
                have g0 := H.swap.cells m
                rw [arr_get (by have := hnl.out; omega), hnyv] at g0
                have ho2 : Hid (∀ s, (o.set i (codeF F i)).getD s 0 = if s < i + 1 then codeF F s else 0) := Lib.hid (fun s => by
                  rw [List.getD_eq_getElem?_getD, List.getElem?_set]
                  by_cases h : i = s
                  · subst h; rw [if_pos rfl, if_pos (by have := hol.out; omega), if_pos (by omega)]; rfl
                  · rw [if_neg h, ← List.getD_eq_getElem?_getD, ho.out s]
                    by_cases h2 : s < i
                    · rw [if_pos h2, if_pos (by omega)]
                    · rw [if_neg h2, if_neg (by omega)])
                have hny2 : Hid (∀ j : Nat, 1 ≤ j → j ≤ 15 → (ny.set m (codeF F i + 1)).getD j 0 = lowF F j + cntL (F.take (i + 1)) j) := Lib.hid (fun j h1 h2 => by
                  rw [cntL_take_succ hil, hm, List.getD_eq_getElem?_getD, List.getElem?_set]
                  by_cases h : m = j
                  · subst h; rw [if_pos rfl, if_pos (by have := hnl.out; omega), if_pos rfl, hcode]; simp; omega
                  · rw [if_neg h, if_neg (by omega), ← List.getD_eq_getElem?_getD, hny.out j h1 h2]; simp)
                have hol2 : Hid ((o.set i (codeF F i)).length = n) := Lib.hid (by rw [List.length_set]; exact hol.out)
                have hnl2 : Hid ((ny.set m (codeF F i + 1)).length = 16) := Lib.hid (by rw [List.length_set]; exact hnl.out)
                have hst1 : (nums o).set i (.int .i64 (codeF F i)) = nums (o.set i (codeF F i)) := nums_set _ _ _
                have hst2 := arr_set ny m (codeF F i + 1)
                have hfit : m < (nums ny).toArray.size := by rw [List.size_toArray, nums_length]; have := hnl.out; omega
                have hy1 : codeF F i ≤ 32768 := by
                  have : cntC F m = cntL F m := by unfold cntC; rw [if_neg (by omega)]
                  omega
                have HNY := Lib.hid hnyv
                clear hcode hlt2 hroom hpk hnyv hm
                generalize codeF F i = y at *
                have HST1 := Lib.hid hst1
                have HST2 := Lib.hid hst2
                have hyw : IntKind.i64.wrap (y + 1) = y + 1 := IntWalk.i64_in _ ⟨by omega, by omega⟩
                have hmI : (m : Int) < 16 := by omega
                clear hst1 hst2 hny ho hil
                go_wp2_with (first
                  | (refine wpList_store_slc rfl _ _ rfl rfl H (.int .i64 y) rfl (by kernel_rfl) (by omega) rfl ?_; clear H c1 g0; intro w5 H; rw [HST1.out] at H; have g0 := H.swap.cells m; rw [arr_get (by have := hnl.out; omega), HNY.out] at g0)
                  | (refine wpList_store_int rfl _ _ rfl rfl H.swap rfl (by kernel_rfl) hfit ?_; clear H g0; intro w6 H; rw [HST2.out] at H; replace H := H.swap))
                go_roundw
                case rel => exact ⟨i + 1, _, _, by go_num, by omega, hnl2, hol2, hny2, ho2, H⟩
                case measure => simp [intOf]; omega
              · have hcode : codeF F i = 0 := by unfold codeF; rw [if_neg hpos]
                have ho2 : Hid (∀ s, o.getD s 0 = if s < i + 1 then codeF F s else 0) := Lib.hid (fun s => by
                  rw [ho.out s]
                  by_cases h2 : s < i
                  · rw [if_pos h2, if_pos (by omega)]
                  · rw [if_neg h2]
                    by_cases h3 : s = i
                    · subst h3; rw [if_pos (by omega), hcode]
                    · rw [if_neg (by omega)])
                have hny2 : Hid (∀ j : Nat, 1 ≤ j → j ≤ 15 → ny.getD j 0 = lowF F j + cntL (F.take (i + 1)) j) := Lib.hid (fun j h1 h2 => by
                  rw [cntL_take_succ hil, if_neg (by omega), hny.out j h1 h2]; simp)
                generalize F.getD i 0 = x at *
                clear hcode hny ho hil
                go_wp2_with fail
                go_roundw
                case rel => exact ⟨i + 1, ny, o, by go_num, by omega, hnl, hol, hny2, ho2, H⟩
                case measure => simp [intOf]; omega
            · obtain rfl : i = n := by omega
              have hI : ¬ (i : Int) < (i : Int) := by omega
              have e3 : Hid (o = R) := Lib.hid (by
                rw [← e2.out]
                refine List.ext_getElem (by rw [hol.out, codesF_length, hl.out]) fun s h1 h2 => ?_
                have h3 := ho.out s
                rw [if_pos (by have := hol.out; omega), List.getD_eq_getElem?_getD, List.getElem?_eq_getElem h1] at h3
                have h4 := codesF_get (l := F) (s := s) (by have := hol.out; have := hl.out; omega)
                rw [List.getD_eq_getElem?_getD, List.getElem?_eq_getElem h2] at h4
                exact h3.trans h4.symm)
              clear ho hny
              go_wp2_with fail
              go_ret2
              refine ⟨_, rfl, _, by rw [e1.out]; rfl, ?_⟩
              rw [← e3.out]
              exact ((((H.front 2 rfl).front 2 rfl).drop.drop))
    · rw [if_neg hw] at hlw
      have e1 : Hid (er = 2) := Lib.hid (by rw [← her.out]; unfold cerrF; rw [hZ.out, if_pos rfl, if_neg hw])
      obtain ⟨e2, e3⟩ := HNIL.out (by rw [e1.out]; decide)
      subst e3
      have E2 := Lib.hid e2
      obtain ⟨lf, hlf⟩ : ∃ lf, Hid (leftF (countsF F) = lf) := ⟨_, rfl⟩
      rw [hlf.out] at hlw HL
      have hlf0 : lf < 0 := by omega
      clear e2 hw hlw
      go_wp2_with (refine wpList_load16 rfl _ rfl rfl hcs H ?_)
      refine (HL.out _).mono ?_
      rintro e w3 ⟨_, rfl, rfl, H1⟩
      have H := H.join H1
      clear H1
      go_wp2_with fail
      go_ret2
      refine ⟨_, rfl, _, by rw [e1.out]; rfl, ?_⟩
      rw [E2.out]
      exact H.bare.nil 3 1
end Go.Proofs.Yteoecchggjmffaa
/- Bits: Writer.Put. -/
namespace Go.Proofs.Yteoecchggjmffaa
open Go.RowKit

set_option maxHeartbeats 400000 in
theorem put_any {w0 w : World} {ps : List Piece} {g : Nat} {bs : List Bool} (v n : Int) (hv : -9223372036854775808 ≤ v ∧ v ≤ 9223372036854775807) (hn : -9223372036854775808 ≤ n ∧ n ≤ 9223372036854775807) (H : Own w0 w (Wtr g bs :: ps)) (hl : bs.length ≤ 35184372088000) :
    Calls Try.prog 37 #[.pointer (some ⟨g, 0, none⟩), .int .i64 v, .int .i64 n] w (Ret fun _ w' => Own w0 w' (Wtr g (bs ++ bitsOf v (cut n)) :: ps)) := by
  obtain ⟨hv1, hv2⟩ := hv
  obtain ⟨hn1, hn2⟩ := hn
  obtain ⟨m, hm, hm62⟩ : ∃ m : Nat, Hid (cut n = m) ∧ m ≤ 62 := ⟨_, Lib.hid rfl, by unfold cut; omega⟩
  have hmn : Hid (min (max n 0) 62 = (m : Int)) := Lib.hid (by rw [← hm.out]; unfold cut; omega)
  go_enter Try.func37, Try.ntmps37
  go_upto_region 1 with (fail)
  go_cut [11, 12] (fun s11 s12 wx => wx = w ∧ s11 = .int .i64 m ∧ s12 = .int .i64 0)
  case first =>
    go_wp2
    all_goals go_meet
    all_goals exact ⟨rfl, val_int (by have := hmn.out; omega), rfl⟩
  case rest =>
    obtain ⟨rfl, rfl, rfl⟩ := hcut
    go_wp2_with fail
    go_loopw [12] (fun i wx => ∃ k : Nat, k ≤ m ∧ i = .int .i64 k ∧ Own w0 wx (Wtr g (bs ++ bitsOf v k) :: ps)) (fun i _ => m - (intOf i).toNat)
    case atStart => exact ⟨0, Nat.zero_le _, rfl, by simpa [bitsOf] using H⟩
    case round =>
      clear H
      obtain ⟨k, hk, rfl, H⟩ := hrel
      by_cases hlt : k < m
      · obtain ⟨b, hbb⟩ : ∃ b, Hid (bitOf v k = b) := ⟨_, rfl⟩
        have hbit : bits .and .i64 (v / 2 ^ k) 1 = bi b := by rw [i64_and1, ← hbb.out, bi_bitOf]
        go_wp2_with fail
        refine (bit_any b H (by simp [bitsOf_length]; omega)).mono ?_
        rintro e w2 ⟨_, rfl, h2⟩
        replace H : Own w0 w2 (Wtr g (bs ++ bitsOf v (k + 1)) :: ps) := by rw [bitsOf_succ, ← List.append_assoc, hbb.out]; exact h2
        clear h2
        go_wp2
        go_roundw
        case rel => exact ⟨k + 1, by omega, by go_num, H⟩
        case measure => simp [intOf]; omega
      · obtain rfl : k = m := by omega
        go_wp2
        go_end0
        rw [hm.out]
        exact ⟨_, rfl, H⟩
end Go.Proofs.Yteoecchggjmffaa
/- Bits: Writer.Code. -/
namespace Go.Proofs.Yteoecchggjmffaa
open Go.RowKit

set_option maxHeartbeats 400000 in
theorem code_any {w0 w : World} {ps : List Piece} {g : Nat} {bs : List Bool} (v n : Int) (hv : -9223372036854775808 ≤ v ∧ v ≤ 9223372036854775807) (hn : -9223372036854775808 ≤ n ∧ n ≤ 9223372036854775807) (H : Own w0 w (Wtr g bs :: ps)) (hl : bs.length ≤ 35184372088000) :
    Calls Try.prog 70 #[.pointer (some ⟨g, 0, none⟩), .int .i64 v, .int .i64 n] w (Ret fun _ w' => Own w0 w' (Wtr g (bs ++ (bitsOf v (cut n)).reverse) :: ps)) := by
  obtain ⟨hv1, hv2⟩ := hv
  obtain ⟨hn1, hn2⟩ := hn
  obtain ⟨m, hm, hm62⟩ : ∃ m : Nat, Hid (cut n = m) ∧ m ≤ 62 := ⟨_, Lib.hid rfl, by unfold cut; omega⟩
  have hmn : Hid (min (max n 0) 62 = (m : Int)) := Lib.hid (by rw [← hm.out]; unfold cut; omega)
  go_enter Try.func70, Try.ntmps70
  go_upto_region 1 with (fail)
  go_cut [6] (fun s6 wx => wx = w ∧ s6 = .int .i64 ((m : Int) - 1))
  case first =>
    go_wp2
    all_goals go_meet
    all_goals exact ⟨rfl, val_int (by have := hmn.out; omega)⟩
  case rest =>
    obtain ⟨rfl, rfl⟩ := hcut
    go_wp2_with fail
    go_loopw [6] (fun i wx => ∃ k : Nat, ∃ d : Int, k ≤ m ∧ i = .int .i64 d ∧ Hid (d = (m : Int) - 1 - k) ∧ Own w0 wx (Wtr g (bs ++ (bitsOf v m).reverse.take k) :: ps)) (fun i _ => (intOf i + 1).toNat)
    case atStart => exact ⟨0, _, Nat.zero_le _, rfl, Lib.hid (by omega), by simpa using H⟩
    case round =>
      clear H
      obtain ⟨k, d, hk, rfl, hd, H⟩ := hrel
      by_cases hlt : k < m
      · obtain ⟨j, hj⟩ : ∃ j, Hid (m - 1 - k = j) := ⟨_, rfl⟩
        obtain rfl : d = (j : Int) := by have := hd.out; have := hj.out; omega
        have hj62 : j < 62 := by have := hj.out; omega
        obtain ⟨b, hbb⟩ : ∃ b, Hid (bitOf v j = b) := ⟨_, rfl⟩
        have hbit : bits .and .i64 (v / 2 ^ j) 1 = bi b := by rw [i64_and1, ← hbb.out, bi_bitOf]
        go_wp2_with fail
        refine (bit_any b H (by simp [bitsOf_length]; omega)).mono ?_
        rintro e w2 ⟨_, rfl, h2⟩
        replace H : Own w0 w2 (Wtr g (bs ++ (bitsOf v m).reverse.take (k + 1)) :: ps) := by rw [codeBits_take v m k hlt, ← List.append_assoc, hj.out, hbb.out]; exact h2
        clear h2
        go_wp2
        go_roundw
        case rel => exact ⟨k + 1, _, by omega, rfl, Lib.hid (by have := hd.out; omega), H⟩
        case measure => simp [intOf]
      · have hd0 : d < 0 := by have := hd.out; omega
        obtain rfl : k = m := by omega
        rw [List.take_of_length_le (by simp [bitsOf_length])] at H
        go_wp2
        go_end0
        rw [hm.out]
        exact ⟨_, rfl, H⟩
end Go.Proofs.Yteoecchggjmffaa
/- flate: the walks of head, made, put. -/
namespace Go.Proofs.Yteoecchggjmffaa
open Go.RowKit

/-- What reads so wherever ps is owned. -/
def Reads (w0 : World) (ps : List Piece) (size : Nat) (v : Value) (n : Nat) (xs : List Value) : Prop := ∀ w', Own w0 w' ps → Rd w' size v n xs
theorem Reads.mono {w0 : World} {ps qs : List Piece} {size n : Nat} {v : Value} {xs : List Value} (h : Reads w0 ps size v n xs) (hk : ∀ w', Own w0 w' qs → Own w0 w' ps) : Reads w0 qs size v n xs := fun w' h' => h w' (hk w' h')
/-- A code: lengths, and codes, that are read. -/
structure CodOk (w0 : World) (ps : List Piece) (v u : Value) (L : List Int) : Prop where
  len : Reads w0 ps 1 v L.length (nums L)
  cod : Reads w0 ps 1 u L.length (nums (codesF L))
  all : ∀ x ∈ L, 0 ≤ x ∧ x ≤ 15
  wt : sumF wtF L ≤ 2 ^ 15
  few : L.length ≤ 320
theorem CodOk.mono {w0 : World} {ps qs : List Piece} {v u : Value} {L : List Int} (h : CodOk w0 ps v u L) (hk : ∀ w', Own w0 w' qs → Own w0 w' ps) : CodOk w0 qs v u L := ⟨h.len.mono hk, h.cod.mono hk, h.all, h.wt, h.few⟩
theorem cut_eq {x : Int} (h0 : 0 ≤ x) (h1 : x ≤ 62) : cut x = x.toNat := by unfold cut; omega
theorem CodOk.bd {w0 : World} {ps : List Piece} {v u : Value} {L : List Int} (h : CodOk w0 ps v u L) {s : Nat} (hs : s < L.length) : 0 ≤ L.getD s 0 ∧ L.getD s 0 ≤ 15 ∧ 0 ≤ codeF L s ∧ codeF L s ≤ 32768 := by
  have h1 := h.all _ (mem_getD2 hs)
  have h2 := code_nonneg (l := L) s
  refine ⟨h1.1, h1.2, h2, ?_⟩
  by_cases h0 : 0 < L.getD s 0
  · have h3 := code_fits h.all h.wt hs h0
    obtain ⟨p, hp, h4, h5⟩ := pow_pos_nat (L.getD s 0).toNat (by omega)
    rw [hp] at h3
    omega
  · unfold codeF; rw [if_neg h0]; omega

theorem head_any {w0 w : World} {ps : List Piece} {g : Nat} {bs : List Bool} (last : Bool) (kind : Int) (hk : 0 ≤ kind ∧ kind ≤ 3) (H : Own w0 w (Wtr g bs :: ps)) (hl : bs.length ≤ 35184372087000) :
    Calls Try.prog 35 #[.pointer (some ⟨g, 0, none⟩), .bool last, .int .i64 kind] w (Ret fun _ w' => Own w0 w' (Wtr g (bs ++ headB last kind) :: ps)) := by
  have h1 : ∀ (b : Bool), bitsOf (bi b) (cut 1) = [b] := by intro b; cases b <;> decide
  have h2 := put_any (w := w) (bi last) 1 (by cases last <;> decide) (by omega) H (by omega)
  rw [h1] at h2
  have h3 := fun w1 (H : Own w0 w1 (Wtr g (bs ++ [last]) :: ps)) => put_any kind 2 (by omega) (by omega) H (by rw [List.length_append]; simp; omega)
  rw [show cut 2 = 2 from rfl, List.append_assoc] at h3
  have H2 := Lib.hid h2
  have H3 := Lib.hid h3
  clear h1 h2 h3 H
  cases last
  all_goals
    simp only [bi, if_true, if_false, Bool.false_eq_true] at H2
    go_enter Try.func35, Try.ntmps35
    go_wp2_with fail
    refine H2.out.mono ?_
    rintro e w1 ⟨_, rfl, H⟩
    go_wp2_with fail
    refine (H3.out _ H).mono ?_
    rintro e w2 ⟨_, rfl, H⟩
    go_wp2_with fail
    go_end0
    exact ⟨_, rfl, H⟩

theorem results_cell1 {P : Program} {fn : Func} {p : Tmp} {ty : TypeId} (h : fn.results = #[.cell p ty]) (tmps : Array Value) (w : World) (g : Nat) (v : Value)
    (hp : tmps.getD p undef = .pointer (some ⟨g, 0, none⟩)) (hl : (loadVar ty ⟨g, 0, none⟩).run P w = .ok v w) : (results fn tmps).run P w = .ok v w := by
  have hp' : tmps[p]?.getD undef = .pointer (some ⟨g, 0, none⟩) := by simpa using hp
  simp only [results, h]
  simp [hp', asAddr, hl]
set_option maxRecDepth 100000 in
theorem made_any {w : World} {v : Value} {n : Nat} {L : List Int} (hr : Rd w 1 v n (nums L)) (hn : n ≤ 1000000) (hc : cerrF L = 0) :
    Calls Try.prog 46 #[v] w (Ret fun r w' => ∃ u, r = .agg #[v, u] ∧ Own w w' [slc 3 1 u L.length (nums (codesF L))]) := by
  have hl := Lib.hid (rd_len hr)
  rw [hl.out]
  obtain ⟨a, c, rfl, hc1, hc2⟩ := hr.shape
  have H := (Own.start w).alloc (.cells #[.slice none 0 0, .slice none 0 0] 55)
  have hcd := codes_any (hr.old H) hn
  have hcr : cresF L = codesF L := by unfold cresF; rw [if_pos hc]
  rw [hc, hcr, codesF_length, hl.out] at hcd
  have HC := Lib.hid hcd
  clear hr hc hcd hcr
  go_enter Try.func46, Try.ntmps46
  go_wp2_with fail
  generalize w.alloc _ = w1 at *
  generalize w.heap.size = g at *
  refine HC.out.mono ?_
  rintro e w2 ⟨_, rfl, u, rfl, H2⟩
  have H := (H.join H2).swap
  obtain ⟨a2, c2, rfl, -⟩ := (H.front 1 rfl).rd.shape
  clear H2
  have H : Own w w2 (blk g (.cells #[.slice none 0 0, .slice none 0 0] 55) :: [slc 3 1 (.slice a2 n c2) n (nums (codesF L))]) := H
  go_wp2_with (refine wpList_store_agg (vs := [.slice a n c, .slice a2 n c2]) rfl _ _ rfl rfl H rfl (by kernel_rfl) (by simp) (by simp [Value.oneCell']) rfl ?_; clear H; intro w5 H)
  have c0 := H.cells
  have hld : (loadVar 55 ⟨g, 0, none⟩).run Try.prog w5 = .ok (.agg #[.slice a n c, .slice a2 n c2]) w5 := by
    clear HC
    go_simp
  refine bodyPost_ret (results_cell1 rfl _ _ g _ rfl hld) rfl ?_
  exact ⟨_, rfl, _, rfl, H.drop⟩
set_option maxRecDepth 100000 in
set_option maxHeartbeats 1600000 in
theorem cput_any {w0 w : World} {ps : List Piece} {g s : Nat} {bs : List Bool} {v u : Value} {L : List Int} (hc : CodOk w0 ps v u L) (hs : s < L.length) (H : Own w0 w (Wtr g bs :: ps)) (hl : bs.length ≤ 35184372087000) :
    Calls Try.prog 57 #[.agg #[v, u], .pointer (some ⟨g, 0, none⟩), .int .i64 s] w (Ret fun _ w' => Own w0 w' (Wtr g (bs ++ cbits L s) :: ps)) := by
  obtain ⟨b1, o1, c1, rfl, hc1, hc2⟩ := (hc.len w H.drop).some (by rw [nums_length]; omega)
  obtain ⟨b2, o2, c2, rfl, hc3, hc4⟩ := (hc.cod w H.drop).some (by rw [nums_length, codesF_length]; omega)
  have hb := hc.bd hs
  have hw := fun w1 (h : Own w0 w1 (Wtr g bs :: ps)) => code_any (codeF L s) (L.getD s 0) (by omega) (by omega) h (by omega)
  have hcb : (bitsOf (codeF L s) (cut (L.getD s 0))).reverse = cbits L s := by unfold cbits; rw [cut_eq hb.1 (by omega)]
  rw [hcb] at hw
  have hcell : ∀ w1, Own w0 w1 ps → w1.cell? ⟨b1, o1 + s, none⟩ = some (.int .i64 (L.getD s 0)) ∧ w1.cell? ⟨b2, o2 + s, none⟩ = some (.int .i64 (codeF L s)) := fun w1 h => by
    refine ⟨(hc.len w1 h).cell (nums_get (getD_get hs)), (hc.cod w1 h).cell (nums_get ?_)⟩
    rw [getD_get (by rw [codesF_length]; exact hs), codesF_get hs]
  have hfew := hc.few
  obtain ⟨n, hn⟩ : ∃ n, Hid (L.length = n) := ⟨_, rfl⟩
  rw [hn.out] at hs hc1 hc3 hfew ⊢
  generalize L.getD s 0 = x at *
  generalize codeF L s = y at *
  have HW := Lib.hid hw
  have HC := Lib.hid hcell
  have hsI : (s : Int) < (n : Int) := by omega
  have hnil : s < n := hs
  clear hw hcell hc hcb hb
  have H := (H.alloc (.cells #[.slice (some ⟨b1, o1, none⟩) n c1, .slice (some ⟨b2, o2, none⟩) n c2] 55)).swap
  go_enter Try.func57, Try.ntmps57
  go_upto_region 1 with (fail)
  generalize w.alloc _ = w1 at *
  generalize w.heap.size = g2 at *
  refine wp_region_calm (fun w1 => Own w0 w1 (Wtr g bs :: blk g2 (.cells #[.slice (some ⟨b1, o1, none⟩) n c1, .slice (some ⟨b2, o2, none⟩) n c2] 55) :: ps)) 11 (by kernel_rfl) (by kernel_rfl) H.drew ?_
  simp only [List.take_succ_cons, List.take_zero, List.drop_succ_cons, List.drop_zero]
  repeat
    first
    | (refine calm_value (v := ?_) (by decide) rfl (fun σ w1 hS => ?_) ?_
       rotate_left
       · have c0 := (hS.front 1 rfl).cells; obtain ⟨c1, c2⟩ := HC.out _ hS.drop.drop
         first | (go_simp; rfl) | rfl
       simp only [Act.put, List.setIfInBounds_toArray, List.set_cons_zero, List.set_cons_succ])
    | (refine calm_skip (by decide) rfl ?_
       simp only [Act.put, List.setIfInBounds_toArray, List.set_cons_zero, List.set_cons_succ])
  refine calm_nil ?_
  intro wd HD
  clear H
  go_wp2_with fail
  refine (HW.out _ (HD.front 1 rfl).drop).mono ?_
  rintro e w3 ⟨_, rfl, H⟩
  go_wp2_with fail
  go_end0
  exact ⟨_, rfl, H⟩
end Go.Proofs.Yteoecchggjmffaa
/- lz: tokens that are read. No program in sight. -/
namespace Go.Proofs.Yteoecchggjmffaa
open Go.RowKit

theorem tok_cells {w : World} {b o c i n : Nat} {l : List Tok} {t : Tok} (h : Rd w 3 (.slice (some ⟨b, o, none⟩) n c) n (rows tcell l)) (ht : l[i]? = some t) :
    w.cell? ⟨b, o + i * 3, none⟩ = some (.int .i64 t.len) ∧ w.cell? ⟨b, o + i * 3 + 1, none⟩ = some (.int .i64 t.dist) ∧ w.cell? ⟨b, o + i * 3 + 2, none⟩ = some (.int .i64 t.lit) := by
  have h0 := h.cell ((rows_get tcell tcell_length ht 0 (by omega)).trans rfl)
  have h1 := h.cell ((rows_get tcell tcell_length ht 1 (by omega)).trans rfl)
  have h2 := h.cell ((rows_get tcell tcell_length ht 2 (by omega)).trans rfl)
  exact ⟨h0, h1, h2⟩
theorem may_lit {a b c : Int} {n : Nat} (h : may ⟨a, b, c⟩ n = true) (ha : a = 0) : b = 0 ∧ 0 ≤ c ∧ c < 256 := by
  unfold may at h
  rw [if_pos ha] at h
  simpa using h
theorem may_back {a b c : Int} {n : Nat} (h : may ⟨a, b, c⟩ n = true) (ha : a ≠ 0) : c = 0 ∧ 3 ≤ a ∧ a ≤ 258 ∧ 1 ≤ b ∧ b ≤ 32768 ∧ b ≤ n := by
  unfold may at h
  rw [if_neg ha] at h
  simpa using h
end Go.Proofs.Yteoecchggjmffaa
/- flate: the walk of body. -/
namespace Go.Proofs.Yteoecchggjmffaa
open Go.RowKit

def SymOk (L D : List Int) (t : Tok) : Prop := TokOk t ∧ (t.len = 0 → t.lit.toNat < L.length) ∧ (t.len ≠ 0 → (lenSym t.len.toNat).1 < L.length ∧ (distSym t.dist.toNat).1 < D.length)
theorem toksB_succ {L D : List Int} {l : List Tok} {k : Nat} {t : Tok} (h : l[k]? = some t) : toksB L D (l.take (k + 1)) = toksB L D (l.take k) ++ tbits L D t := by
  unfold toksB
  rw [List.take_add_one, h, List.flatMap_append]
  simp
theorem toksB_take_le {L D : List Int} (hL : ∀ x ∈ L, 0 ≤ x ∧ x ≤ 15) (hD : ∀ x ∈ D, 0 ≤ x ∧ x ≤ 15) {l : List Tok} (ht : ∀ t ∈ l, TokOk t) (k : Nat) : (toksB L D (l.take k)).length ≤ 48 * l.length := by
  have := toksB_le hL hD (l := l.take k) (fun t h => ht t (List.mem_of_mem_take h))
  rw [List.length_take] at this
  omega

set_option maxRecDepth 100000 in
set_option maxHeartbeats 6400000 in
theorem body_any {w0 w : World} {ps : List Piece} {g : Nat} {bs : List Bool} {v u v2 u2 tv : Value} {L D : List Int} {l : List Tok} (hc : CodOk w0 ps v u L) (hd : CodOk w0 ps v2 u2 D) (ht : Reads w0 ps 3 tv l.length (rows tcell l)) (hs : ∀ t ∈ l, SymOk L D t) (he : 256 < L.length) (H : Own w0 w (Wtr g bs :: ps)) (hl : bs.length + 48 * l.length ≤ 35184372080000) :
    Calls Try.prog 45 #[.pointer (some ⟨g, 0, none⟩), tv, .agg #[v, u], .agg #[v2, u2]] w (Ret fun _ w' => Own w0 w' (Wtr g (bs ++ bodyB L D l) :: ps)) := by
  obtain ⟨ta, tc, rfl, ht1, ht2⟩ := (ht w H.drop).shape
  obtain ⟨a1, c1, rfl, -⟩ := (hc.len w H.drop).shape
  obtain ⟨a2, c2, rfl, -⟩ := (hc.cod w H.drop).shape
  obtain ⟨a3, c3, rfl, -⟩ := (hd.len w H.drop).shape
  obtain ⟨a4, c4, rfl, -⟩ := (hd.cod w H.drop).shape
  have hall := hc.all
  have hdall := hd.all
  obtain ⟨n, hn⟩ : ∃ n, Hid (L.length = n) := ⟨_, rfl⟩
  obtain ⟨m, hm⟩ : ∃ m, Hid (D.length = m) := ⟨_, rfl⟩
  obtain ⟨N, hN⟩ : ∃ N, Hid (l.length = N) := ⟨_, rfl⟩
  have HL := Lib.hid (fun k => toksB_take_le hall hdall (fun t h => (hs t h).1) (l := l) k)
  rw [hn.out] at hc he ⊢
  rw [hm.out] at hd ⊢
  rw [hN.out] at ht ht1 hl HL ⊢
  have HC := Lib.hid hc
  have HD := Lib.hid hd
  have HT := Lib.hid ht
  have HS := Lib.hid hs
  clear hc hd ht hs hall hdall
  have H := (H.alloc2 (.cells #[.slice a1 n c1, .slice a2 n c2] 55) (.cells #[.slice a3 m c3, .slice a4 m c4] 55))
  go_enter Try.func45, Try.ntmps45
  go_upto_region 1 with (fail)
  generalize (w.alloc _).alloc _ = w1 at *
  generalize w.heap.size + 1 = g2 at *
  generalize w.heap.size = g1 at *
  have H : Own w0 w1 (Wtr g bs :: blk g1 (.cells #[.slice a1 n c1, .slice a2 n c2] 55) :: blk g2 (.cells #[.slice a3 m c3, .slice a4 m c4] 55) :: ps) := (H.front 1 rfl).front 2 rfl
  have HC2 := Lib.hid (fun (qs : List Piece) => HC.out.mono (qs := qs ++ blk g1 (.cells #[.slice a1 n c1, .slice a2 n c2] 55) :: blk g2 (.cells #[.slice a3 m c3, .slice a4 m c4] 55) :: ps) fun w' h => h.skip.drop.drop)
  have HD2 := Lib.hid (fun (qs : List Piece) => HD.out.mono (qs := qs ++ blk g1 (.cells #[.slice a1 n c1, .slice a2 n c2] 55) :: blk g2 (.cells #[.slice a3 m c3, .slice a4 m c4] 55) :: ps) fun w' h => h.skip.drop.drop)
  clear HC HD
  go_wp2_with fail
  go_loopw [15] (fun s15 wx => ∃ k : Nat, s15 = .int .i64 k ∧ k ≤ N ∧ Own w0 wx (Wtr g (bs ++ toksB L D (l.take k)) :: blk g1 (.cells #[.slice a1 n c1, .slice a2 n c2] 55) :: blk g2 (.cells #[.slice a3 m c3, .slice a4 m c4] 55) :: ps)) (fun s15 _ => N - (intOf s15).toNat)
  case atStart => exact ⟨0, by go_num, by omega, by simpa [toksB] using H⟩
  case round =>
    clear H
    obtain ⟨k, rfl, hk, H⟩ := hrel
    have hlk := HL.out k
    obtain ⟨B, hB⟩ : ∃ B, Hid (bs ++ toksB L D (l.take k) = B) := ⟨_, rfl⟩
    have hBl : B.length ≤ 35184372081000 := by rw [← hB.out, List.length_append]; omega
    rw [hB.out] at H
    by_cases hlt : k < N
    · have hI : (k : Int) < (N : Int) := by omega
      obtain ⟨t, htk⟩ := get_of_lt (l := l) (k := k) (by rw [hN.out]; exact hlt)
      have hso := HS.out t (List.mem_of_getElem? htk)
      have hB2 : Hid (bs ++ toksB L D (l.take (k + 1)) = B ++ tbits L D t) := Lib.hid (by rw [toksB_succ htk, ← List.append_assoc, hB.out])
      obtain ⟨b, o, _, he2, -⟩ := (HT.out _ H.drop.drop.drop).some (by rw [rows_length tcell tcell_length, hN.out]; omega)
      cases he2
      obtain ⟨c0, cc1, cc2⟩ := tok_cells (HT.out _ H.drop.drop.drop) htk
      obtain ⟨x, y, z⟩ := t
      simp only at c0 cc1 cc2
      clear htk hlk
      go_upto_region 4 with (refine wpList_store_agg (vs := [.int .i64 x, .int .i64 y, .int .i64 z]) rfl _ _ rfl rfl (H.alloc _) rfl (by kernel_rfl) (by simp) (by simp; exact ⟨rfl, rfl, rfl⟩) rfl ?_; clear H; intro w5 H)
      generalize wr.heap.size = tb at *
      have H : Own w0 w5 (Wtr g B :: blk tb (.cells #[.int .i64 x, .int .i64 y, .int .i64 z] 65) :: blk g1 (.cells #[.slice a1 n c1, .slice a2 n c2] 55) :: blk g2 (.cells #[.slice a3 m c3, .slice a4 m c4] 55) :: ps) := H.swap
      clear c0 cc1 cc2
      have hok := hso.1
      by_cases hx : x = 0
      · subst hx
        have hz : 0 ≤ z ∧ z < 256 := by rcases hok with h | h <;> simp only at h <;> omega
        obtain ⟨s, rfl⟩ : ∃ s : Nat, z = s := ⟨z.toNat, by omega⟩
        have hsl : s < L.length := by have := hso.2.1 rfl; simpa using this
        have htb : tbits L D ⟨0, y, (s : Int)⟩ = cbits L s := by unfold tbits; rw [if_pos rfl, Int.toNat_natCast]
        rw [htb] at hB2
        have hp := fun w1 h => cput_any (w := w1) (HC2.out [blk tb (.cells #[.int .i64 0, .int .i64 y, .int .i64 (s : Int)] 65)]) hsl h (bs := B) (g := g) (by omega)
        have HP := Lib.hid hp
        clear hp hso hok htb
        have c0 := (H.front 1 rfl).cells
        have cg1 := (H.front 2 rfl).cells
        go_wp2_with fail
        refine (HP.out _ H).mono ?_
        rintro e w6 ⟨_, rfl, H6⟩
        clear H c0 cg1
        have H : Own w0 w6 (Wtr g (B ++ cbits L s) :: blk g1 (.cells #[.slice a1 n c1, .slice a2 n c2] 55) :: blk g2 (.cells #[.slice a3 m c3, .slice a4 m c4] 55) :: ps) := (H6.front 1 rfl).drop
        rw [← hB2.out] at H
        clear H6
        go_wp2_with fail
        go_roundw
        case rel => exact ⟨k + 1, by go_num, by omega, H⟩
        case measure => simp [intOf]; omega
      · have hxb : (x == 0) = false := by simpa using hx
        have hb : 3 ≤ x ∧ x ≤ 258 ∧ 1 ≤ y ∧ y ≤ 32768 := by rcases hok with h | h <;> simp only at h <;> omega
        obtain ⟨p, rfl⟩ : ∃ p : Nat, x = p := ⟨x.toNat, by omega⟩
        obtain ⟨q, rfl⟩ : ∃ q : Nat, y = q := ⟨y.toNat, by omega⟩
        obtain ⟨hs1, hs2⟩ := hso.2.2 hx
        simp only [Int.toNat_natCast] at hs1 hs2
        have hlb := lenSym_bd (n := p) (by omega)
        have hdb := distSym_bd (n := q) (by omega)
        have hln := length_any p (by omega) (by omega)
        have hdn := dist_any q (by omega) (by omega)
        have htb : tbits L D ⟨(p : Int), (q : Int), z⟩ = cbits L (lenSym p).1 ++ (bitsOf (lenSym p).2.2 (lenSym p).2.1 ++ (cbits D (distSym q).1 ++ bitsOf (distSym q).2.2 (distSym q).2.1)) := by unfold tbits; rw [if_neg hx]; rfl
        rw [htb] at hB2
        obtain ⟨l1, l2, l3, hl1⟩ : ∃ l1 l2 l3, Hid (lenSym p = (l1, l2, l3)) := ⟨_, _, _, rfl⟩
        obtain ⟨d1, d2, d3, hd1⟩ : ∃ d1 d2 d3, Hid (distSym q = (d1, d2, d3)) := ⟨_, _, _, rfl⟩
        rw [hl1.out] at hs1 hlb hln hB2
        rw [hd1.out] at hs2 hdb hdn hB2
        simp only at hs1 hlb hln hB2 hs2 hdb hdn
        obtain ⟨-, -, hl2, hl3⟩ := hlb
        obtain ⟨-, hd2, hd3⟩ := hdb
        have hl3b : l3 < 32 := Nat.lt_of_lt_of_le hl3 (Nat.pow_le_pow_right (n := 2) (by omega) hl2)
        have hd3b : d3 < 8192 := Nat.lt_of_lt_of_le hd3 (Nat.pow_le_pow_right (n := 2) (by omega) hd2)
        have HB2 := hB2
        clear hl3 hd3 htb hl1 hd1 hso hok
        have k1 := fun w1 h => cput_any (w := w1) (HC2.out [blk tb (.cells #[.int .i64 (p : Int), .int .i64 (q : Int), .int .i64 z] 65)]) hs1 h (bs := B) (g := g) (by omega)
        have bd1 := cbits_le (HC2.out []).all l1
        have k2 := fun w1 (h : Own w0 w1 (Wtr g (B ++ cbits L l1) :: blk tb (.cells #[.int .i64 (p : Int), .int .i64 (q : Int), .int .i64 z] 65) :: blk g1 (.cells #[.slice a1 n c1, .slice a2 n c2] 55) :: blk g2 (.cells #[.slice a3 m c3, .slice a4 m c4] 55) :: ps)) => put_any (l3 : Int) (l2 : Int) (by omega) (by omega) h (by rw [List.length_append]; omega)
        rw [cut_eq (by omega) (by omega), Int.toNat_natCast] at k2
        have k3 := fun w1 h => cput_any (w := w1) (HD2.out [blk tb (.cells #[.int .i64 (p : Int), .int .i64 (q : Int), .int .i64 z] 65)]) hs2 h (bs := B ++ cbits L l1 ++ bitsOf l3 l2) (g := g) (by rw [List.length_append, List.length_append, bitsOf_length]; omega)
        have bd2 := cbits_le (HD2.out []).all d1
        have k4 := fun w1 (h : Own w0 w1 (Wtr g (B ++ cbits L l1 ++ bitsOf l3 l2 ++ cbits D d1) :: blk tb (.cells #[.int .i64 (p : Int), .int .i64 (q : Int), .int .i64 z] 65) :: blk g1 (.cells #[.slice a1 n c1, .slice a2 n c2] 55) :: blk g2 (.cells #[.slice a3 m c3, .slice a4 m c4] 55) :: ps)) => put_any (d3 : Int) (d2 : Int) (by omega) (by omega) h (by rw [List.length_append, List.length_append, List.length_append, bitsOf_length]; omega)
        rw [cut_eq (by omega) (by omega), Int.toNat_natCast] at k4
        have K1 := Lib.hid k1
        have K2 := Lib.hid k2
        have K3 := Lib.hid k3
        have K4 := Lib.hid k4
        have LN := Lib.hid hln
        have DN := Lib.hid hdn
        clear k1 k2 k3 k4 hln hdn bd1 bd2 hs1 hs2
        have c0 := (H.front 1 rfl).cells
        have cg1 := (H.front 2 rfl).cells
        go_wp2_with fail
        refine (LN.out _).mono ?_
        rintro e w6 ⟨_, rfl, rfl, H6⟩
        replace H := H.join H6
        clear H6 c0 cg1
        have c0 := (H.front 1 rfl).cells
        have cg1 := (H.front 2 rfl).cells
        go_wp2_with fail
        refine (K1.out _ H).mono ?_
        rintro e w7 ⟨_, rfl, H7⟩
        clear H c0 cg1
        go_wp2_with fail
        refine (K2.out _ H7).mono ?_
        rintro e w8 ⟨_, rfl, H⟩
        clear H7
        have c0 := (H.front 1 rfl).cells
        go_wp2_with fail
        refine (DN.out _).mono ?_
        rintro e w9 ⟨_, rfl, rfl, H6⟩
        replace H := H.join H6
        clear H6 c0
        have cg2 := (H.front 3 rfl).cells
        go_wp2_with fail
        refine (K3.out _ H).mono ?_
        rintro e w10 ⟨_, rfl, H10⟩
        clear H cg2
        go_wp2_with fail
        refine (K4.out _ H10).mono ?_
        rintro e w11 ⟨_, rfl, H11⟩
        have H : Own w0 w11 (Wtr g (B ++ cbits L l1 ++ bitsOf l3 l2 ++ cbits D d1 ++ bitsOf d3 d2) :: blk g1 (.cells #[.slice a1 n c1, .slice a2 n c2] 55) :: blk g2 (.cells #[.slice a3 m c3, .slice a4 m c4] 55) :: ps) := (H11.front 1 rfl).drop
        simp only [List.append_assoc] at H
        rw [← HB2.out] at H
        clear H10 H11
        go_wp2_with fail
        go_roundw
        case rel => exact ⟨k + 1, by go_num, by omega, H⟩
        case measure => simp [intOf]; omega
    · have hI : ¬ (k : Int) < (N : Int) := by omega
      have hlall : l.take k = l := List.take_of_length_le (by rw [hN.out]; omega)
      rw [hlall] at hB
      have hfin : Hid (bs ++ bodyB L D l = B ++ cbits L 256) := Lib.hid (by unfold bodyB; rw [← List.append_assoc, hB.out])
      have hp := fun w1 h => cput_any (w := w1) (HC2.out []) (s := 256) (by rw [hn.out]; exact he) h (bs := B) (g := g) (by omega)
      have HP := Lib.hid hp
      clear hp hlk
      have cg1 := (H.front 1 rfl).cells
      go_wp2_with fail
      refine (HP.out _ H).mono ?_
      rintro e w6 ⟨_, rfl, H6⟩
      go_wp2_with fail
      go_end0
      rw [hfin.out]
      exact ⟨_, rfl, (H6.front 1 rfl).drop.front 1 rfl |>.drop⟩
end Go.Proofs.Yteoecchggjmffaa
/- slices.Repeat: the walks of the product of two words, the first 1. -/
namespace Go.Proofs.Yteoecchggjmffaa
open Go.RowKit

theorem u64_mask (k : Nat) (h : k ≤ 1000000) : bits .and .u64 (k : Int) 4294967295 = (k : Int) := by
  have key : IntKind.u64.wrap ((BitVec.ofInt 64 (k : Int) &&& BitVec.ofInt 64 ((4294967295 : Nat) : Int)).toNat : Int) = (k : Int) := by
    rw [BitVec.ofInt_natCast, BitVec.ofInt_natCast, BitVec.toNat_and, BitVec.toNat_ofNat, BitVec.toNat_ofNat, Nat.mod_eq_of_lt (by omega), Nat.mod_eq_of_lt (by omega)]
    have := Nat.and_two_pow_sub_one_eq_mod k 32
    rw [show 2 ^ 32 - 1 = 4294967295 by decide] at this
    rw [this, Nat.mod_eq_of_lt (by omega)]
    exact IntWalk.u64_in _ ⟨by omega, by omega⟩
  exact key
set_option maxRecDepth 100000 in
theorem mul64_any (k : Nat) (h : k ≤ 1000000) (w : World) :
    Calls Try.prog 67 #[.int .u64 1, .int .u64 k] w (Ret fun r w' => r = .tuple #[.int .u64 0, .int .u64 k] ∧ Own w w' []) := by
  have H := Own.start w
  have h1 := u64_mask k h
  have h2 : bits .and .u64 1 4294967295 = 1 := by decide
  have h3 : (k : Int) / 4294967296 = 0 := by omega
  go_enter Try.func67, Try.ntmps67
  go_wp2_with fail
  go_ret2
  exact ⟨_, rfl, rfl, H⟩
theorem mul_any (k : Nat) (h : k ≤ 1000000) (w : World) :
    Calls Try.prog 51 #[.int .u64 1, .int .u64 k] w (Ret fun r w' => r = .tuple #[.int .u64 0, .int .u64 k] ∧ Own w w' []) := by
  have H := Own.start w
  have h2 := mul64_any k h
  go_enter Try.func51, Try.ntmps51
  go_wp2_with fail
  refine (h2 _).mono ?_
  rintro e w2 ⟨_, rfl, rfl, H2⟩
  have H := H.join H2
  go_wp2_with fail
  go_ret2
  exact ⟨_, rfl, rfl, H⟩
end Go.Proofs.Yteoecchggjmffaa
/- copy into a row of the call's own; slices.Repeat of one int. -/
namespace Go.Proofs.Yteoecchggjmffaa
open Go.RowKit

section
variable {w0 w w' : World} {ps : List Piece} {e : TypeId} {n : Nat} {xs : List Value}
variable {P : Program} {ops : Array Oper} {rest : List Oper} {o : Oper} {a : Act} {Q : Exit → Act → World → Prop}
theorem wpList_copy_slc (hgd : o.guard = none) (d s : Operand) (dT sT : TypeId) (ho : o.op = .call { callee := .builtin .copy, args := #[d, s], argTypes := #[dT, sT] })
    (hu : P.underlying dT = some (.slice e)) (hsz : (P.info? e).map (·.size) = some 1) {g c : Nat} (H : Own w0 w (slc e 1 (.slice (some ⟨g, 0, none⟩) n c) n xs :: ps))
    (dp sp : Option Addr) (dLen dCap sLen sCap : Nat) (hd : a.eval d = .slice dp dLen dCap) (hs : a.eval s = .slice sp sLen sCap)
    (off m : Nat) (cs : List Value) (hm : cs.length = m) (hn : m = Nat.min sLen dLen) (hpos : 0 < m → dp = some ⟨g, off, none⟩ ∧ ∃ ad, sp = some ad ∧ ∀ j v, cs[j]? = some v → w.cell? (ad.add j) = some v)
    (hfit : off + m ≤ n) (h1 : ∀ v ∈ cs, v.oneCell' = true)
    (h : ∀ w', Own w0 w' (slc e 1 (.slice (some ⟨g, 0, none⟩) n c) n (splice xs off cs) :: ps) → wpList P ops Q rest (a.put o.dst (.int .i64 m)) w') : wpList P ops Q (o :: rest) a w := by
  subst hm
  by_cases h0 : cs.length = 0
  · obtain rfl : cs = [] := List.eq_nil_of_length_eq_zero h0
    refine wpList_copy_nothing hgd d s dT sT ho e hu hsz dp sp dLen dCap sLen sCap hd hs (by simpa using hn.symm) ?_
    exact h w (by simpa [splice] using H)
  · obtain ⟨rfl, ad, rfl, hsrc⟩ := hpos (by omega)
    rcases H.slc_cases with ⟨hv, _⟩ | ⟨g', cap, cur, he, hl, c1, c2, c3, c4, h5⟩
    · cases hv
    · cases he
      refine wpList_copy_own hgd d s dT sT ho e hu hsz g off dLen dCap ad sLen sCap hd hs cur e h5.block.1 cs hn hsrc (by omega) h1 ?_
      refine h _ ((h5.setRow (cur' := (cur.toList.take off ++ (cs ++ cur.toList.drop (off + cs.length))).toArray)).slc_mk ?_ c1 c2 ?_ ?_)
      · rw [length_splice _ _ _ (by omega)]; exact hl
      · simp only [List.size_toArray, List.length_append, List.length_take, List.length_drop, Array.length_toList]; omega
      · have hcl : cur.toList.length = cur.size := by simp
        unfold splice
        rw [← c4, List.toList_toArray, Nat.mul_one, List.take_append, List.take_append, List.take_take, List.drop_take, List.length_take, Nat.min_eq_left (show off ≤ cur.toList.length by omega), List.take_take,
          Nat.min_eq_right (show off ≤ n by omega), List.take_of_length_le (l := cs) (by omega), Nat.min_eq_left (show off ≤ n by omega), show n - off - cs.length = n - (off + cs.length) by omega]
end

theorem rep_splice (a : Int) {k n m : Nat} (h : n + m ≤ k) : splice (nums (List.replicate n a ++ List.replicate (k - n) 0)) n (nums (List.replicate m a)) = nums (List.replicate (n + m) a ++ List.replicate (k - (n + m)) 0) := by
  unfold splice nums
  rw [List.map_append, List.map_append, List.take_left' (by simp), List.drop_append, List.drop_eq_nil_of_le (by simp), List.nil_append]
  simp only [List.map_replicate, List.length_replicate, List.drop_replicate]
  rw [← List.append_assoc, List.replicate_append_replicate, show k - n - (n + m - n) = k - (n + m) by omega]

set_option maxRecDepth 100000 in
set_option maxHeartbeats 1600000 in
theorem repeat_any {w : World} {v : Value} {a : Int} (k : Nat) (hr : Rd w 1 v 1 (nums [a])) (hk : k ≤ 1000000) :
    Calls Try.prog 34 #[v, .int .i64 k] w (Ret fun r w' => Own w w' [slc 3 1 r k (nums (List.replicate k a))]) := by
  have H := Own.start w
  obtain ⟨b, o, c, rfl, hc1, hc2⟩ := hr.some (by simp [nums])
  have c0 := hr.cell (u := .int .i64 a) (j := 0) rfl
  have HC0 := Lib.hid c0
  clear hr c0
  have hmul := mul_any k hk
  have HM := Lib.hid hmul
  clear hmul
  have hkI : (k : Int) ≤ 9223372036854775807 := by omega
  have hkw : IntKind.u64.wrap (k : Int) = (k : Int) := IntWalk.u64_in _ ⟨by omega, by omega⟩
  have hkw2 : IntKind.i64.wrap (k : Int) = (k : Int) := IntWalk.i64_in _ ⟨by omega, by omega⟩
  have hmk : ∀ w : World, (Instr.makeSlice 26 (.int .i64 k) (.int .i64 k)).run Try.prog w = .ok (.slice (some ⟨w.heap.size, 0, none⟩) k k) (w.alloc (.cells (madeCells #[.int .i64 0] k) 3)) := run_make_row' _ _ _ 8 Try.underlying26 intInfo rfl .i64 .i64 k (by omega) (by omega)
  go_enter Try.func34, Try.ntmps34
  go_wp2_with fail
  refine (HM.out _).mono ?_
  rintro e w2 ⟨_, rfl, rfl, H2⟩
  have H := H.join H2
  clear H2
  go_upto_region 7 with (fail)
  have h1 := H.alloc (.cells (madeCells #[.int .i64 0] k) 3)
  have H : Own w (w2.alloc (.cells (madeCells #[.int .i64 0] k) 3)) [slc 3 1 (.slice (some ⟨w2.heap.size, 0, none⟩) k k) k (nums (List.replicate 0 a ++ List.replicate (k - 0) 0))] :=
    h1.slc_mk (by simp [nums]) (Nat.le_refl _) (by simp [maxLen]; omega) (by simp [size_madeCells]) (by rw [toList_madeCells_one]; simp [nums])
  have c0 := (show (w2.alloc (.cells (madeCells #[.int .i64 0] k) 3)).cell? ⟨b, o + 0, none⟩ = some (.int .i64 a) by rw [H.oldCell (World.block_lt_of_cell? _ _ HC0.out)]; exact HC0.out)
  clear h1
  generalize w2.alloc (.cells (madeCells #[.int .i64 0] k) 3) = w3 at *
  obtain ⟨g, hg⟩ : ∃ g, w2.heap.size = g := ⟨_, rfl⟩
  rw [hg] at H ⊢
  clear hg hmk HM
  have hsrc : ∀ j v, (nums (List.replicate (min k 1) a))[j]? = some v → w3.cell? ((⟨b, o, none⟩ : Addr).add j) = some v := fun j v hj => by
    have hlt := (List.getElem?_eq_some_iff.1 hj).1
    rw [nums_length, List.length_replicate] at hlt
    have : j = 0 := by omega
    subst this
    rw [Addr.add_lit, c0]
    have hk1 : min k 1 = 1 := by omega
    rw [hk1] at hj
    exact hj
  obtain ⟨m1, hm1⟩ : ∃ m1, Hid (min k 1 = m1) := ⟨_, rfl⟩
  have hmin : m1 = Nat.min 1 k := by rw [← hm1.out]; show min k 1 = min 1 k; omega
  rw [hm1.out] at hsrc
  have HS := Lib.hid hsrc
  have HMIN := Lib.hid hmin
  have hm1k : m1 ≤ k := by rw [← hm1.out]; omega
  have hm10 : 1 ≤ k → 1 ≤ m1 := fun h => by rw [← hm1.out]; omega
  have HP := Lib.hid hm10
  have HONE : Hid (∀ m : Nat, ∀ v ∈ nums (List.replicate m a), v.oneCell' = true) := Lib.hid (fun m v hv => by
    unfold nums at hv; obtain ⟨x, _, rfl⟩ := List.mem_map.1 hv; rfl)
  clear c0 hsrc hmin hm10
  go_wp2_with (refine wpList_copy_slc rfl _ _ _ _ rfl Try.underlying26 (by kernel_rfl) H _ _ _ _ _ _ rfl rfl 0 m1 (nums (List.replicate m1 a)) (by simp [nums]) HMIN.out (fun h => ⟨rfl, _, rfl, HS.out⟩) (by omega) (HONE.out m1) ?_; clear H; intro w4 H; rw [rep_splice a (by omega), Nat.zero_add] at H)
  go_loopw [8] (fun s8 wx => ∃ n : Nat, s8 = .int .i64 n ∧ n ≤ k ∧ (1 ≤ k → 1 ≤ n) ∧ Own w wx [slc 3 1 (.slice (some ⟨g, 0, none⟩) k k) k (nums (List.replicate n a ++ List.replicate (k - n) 0))]) (fun s8 _ => k - (intOf s8).toNat)
  case atStart => exact ⟨m1, by go_num, hm1k, HP.out, H⟩
  case round =>
    clear H
    obtain ⟨n, rfl, hn, hn1, H⟩ := hrel
    by_cases hlt : n < k
    · have hI : (n : Int) < (k : Int) := by omega
      have hn1 := hn1 (by omega)
      obtain ⟨m, hm⟩ : ∃ m, Hid (min n (k - n) = m) := ⟨_, rfl⟩
      have hm1 : 1 ≤ m := by rw [← hm.out]; omega
      have hmk : n + m ≤ k := by rw [← hm.out]; omega
      have hmn : m ≤ n := by rw [← hm.out]; omega
      have hmin : m = Nat.min n (k - n) := hm.out.symm
      have HMIN2 := Lib.hid hmin
      have hsub : ((k : Int) - (n : Int)) = ((k - n : Nat) : Int) := by omega
      clear hmin
      have hcut : (n : Int) ≤ (k : Int) := by omega
      have hn0 : n ≠ 0 := by omega
      have hkn : k ≠ n := by omega
      go_upto_region 9 with (fail)
      refine wp_region_pres (fun σ w1 => Own w w1 [slc 3 1 (.slice (some ⟨g, 0, none⟩) k k) k (nums (List.replicate n a ++ List.replicate (k - n) 0))]) 7 [] [0] (by kernel_rfl) (by kernel_rfl) (by kernel_rfl) (by kernel_rfl) (fun _ _ d _ _ h => by cases d <;> exact h) ⟨_, _, rfl, fun w => (by first | rfl | (go_simp; rfl)), rfl⟩ H.drew ?_
      simp only [List.take_succ_cons, List.take_zero, List.drop_succ_cons, List.drop_zero]
      repeat
        first
        | (refine calm_value (v := ?_) (by decide) rfl (fun σ w1 hS => ?_) ?_
           rotate_left
           · skip
             first | (go_simp; rfl) | rfl
           simp only [Act.put, List.setIfInBounds_toArray, List.set_cons_zero, List.set_cons_succ])
        | (refine calm_skip (by decide) rfl ?_
           simp only [Act.put, List.setIfInBounds_toArray, List.set_cons_zero, List.set_cons_succ])
      refine calm_nil ?_
      intro σ wd hσ HD
      clear H
      simp only [putNew, List.foldl_nil]
      have hsrc : ∀ j v, (nums (List.replicate m a))[j]? = some v → wd.cell? ((⟨g, 0, none⟩ : Addr).add j) = some v := fun j v hj => by
        have hlt := (List.getElem?_eq_some_iff.1 hj).1
        rw [nums_length, List.length_replicate] at hlt
        rw [Addr.add_lit]
        refine HD.rd.cell ?_
        unfold nums at hj ⊢
        rw [List.map_append, List.getElem?_append_left (by simp; omega), ← hj]
        simp only [List.map_replicate, List.getElem?_replicate]
        rw [if_pos (by omega), if_pos hlt]
      have HS2 := Lib.hid hsrc
      have hnm : IntKind.i64.wrap ((n : Int) + (m : Int)) = ((n + m : Nat) : Int) := by rw [Int.natCast_add]; exact IntWalk.i64_in _ ⟨by omega, by omega⟩
      clear hsrc
      go_wp2_with (refine wpList_copy_slc rfl _ _ _ _ rfl Try.underlying26 (by kernel_rfl) HD _ _ _ _ _ _ rfl rfl n m (nums (List.replicate m a)) (by simp [nums]) HMIN2.out (fun h => ⟨rfl, _, rfl, HS2.out⟩) (by omega) (HONE.out m) ?_; clear HD; intro w6 H; rw [rep_splice a (by omega)] at H)
      go_roundw
      case rel => exact ⟨n + m, by go_num, by omega, fun _ => by omega, H⟩
      case measure => simp [intOf]; omega
    · have hI : ¬ (n : Int) < (k : Int) := by omega
      obtain rfl : n = k := by omega
      rw [Nat.sub_self, List.replicate_zero, List.append_nil] at H
      go_wp2_with fail
      go_ret
      exact ⟨_, rfl, H⟩
end Go.Proofs.Yteoecchggjmffaa
/- slices.Grow of nil, slices.Concat: the walks. -/
namespace Go.Proofs.Yteoecchggjmffaa
open Go.RowKit

set_option maxRecDepth 100000 in
theorem grow_any (n : Nat) (hn : n ≤ 1000000) (w : World) :
    Calls Try.prog 50 #[.slice none 0 0, .int .i64 n] w (Ret fun r w' => Own w w' [slc 3 1 r 0 []]) := by
  have H := Own.start w
  by_cases h0 : n = 0
  · subst h0
    have H := H.nil 3 1
    go_enter Try.func50, Try.ntmps50
    go_wp2_with fail
    go_ret
    exact ⟨_, rfl, H⟩
  · have hI : (n : Int) > 0 := by omega
    obtain ⟨i, hi, hz, hsize, hby⟩ := info_parts intInfo
    have hap : ∀ (w : World) (ty : TypeId) (t2 : TypeId), Try.prog.underlying t2 = some (.int .i64) → (Builtin.append_ #[26, t2] ty #[.slice none 0 0, .int .i64 n]).run Try.prog w = .ok (.slice (some ⟨w.heap.size, 0, none⟩) n (grownCap w n 0 3)) (w.drew.alloc (.cells (Builtin.zeroCells (Value.int .i64 0).cells n ++ Builtin.zeroCells (Value.int .i64 0).cells (grownCap w n 0 3 - n)) 3)) := fun w ty t2 ht2 =>
      Lib.run_append_nil_zeros w 26 t2 ty 3 i (.int .i64 0) .i64 .i64 Try.underlying26 ht2 hi hz n (by omega) (by omega) (by omega) (by rw [hby]; omega)
    have HA := Lib.hid hap
    have hge := grownCap_ge w n 0 3
    have hle := grownCap_le_maxLen w n 0 3 (by simp [maxLen]; omega)
    have H2 : Own w (w.drew.alloc (.cells (Builtin.zeroCells (Value.int .i64 0).cells n ++ Builtin.zeroCells (Value.int .i64 0).cells (grownCap w n 0 3 - n)) 3)) [slc 3 1 (.slice (some ⟨w.heap.size, 0, none⟩) 0 (grownCap w n 0 3)) 0 []] := by
      have h1 := H.drew.alloc (.cells (Builtin.zeroCells (Value.int .i64 0).cells n ++ Builtin.zeroCells (Value.int .i64 0).cells (grownCap w n 0 3 - n)) 3)
      exact h1.slc_mk (by simp) (Nat.zero_le _) hle (by simp [size_zeroCells, Value.cells]; omega) (by simp)
    clear hap
    go_enter Try.func50, Try.ntmps50
    go_wp2_with (at_builtin; refine Lib.wpList_append_run _ rfl _ _ _ _ rfl _ _ rfl rfl _ _ (HA.out _ _ _ (by kernel_rfl)) ?_; clear H; generalize w.drew.alloc _ = w2 at *; generalize grownCap w n 0 3 = gc at *)
    go_ret
    exact ⟨_, rfl, H2⟩

/-- How many ints the first k lists have. -/
def flatN (Ls : List (List Int)) (k : Nat) : List Int := (Ls.take k).flatten
theorem flatN_succ {Ls : List (List Int)} {k : Nat} {L : List Int} (h : Ls[k]? = some L) : flatN Ls (k + 1) = flatN Ls k ++ L := by
  unfold flatN
  rw [List.take_add_one, h, List.flatten_append]
  simp
theorem flatN_le (Ls : List (List Int)) (k : Nat) : (flatN Ls k).length ≤ Ls.flatten.length := by
  unfold flatN
  conv => rhs; rw [← List.take_append_drop k Ls, List.flatten_append, List.length_append]
  omega
set_option maxRecDepth 100000 in
set_option maxHeartbeats 1600000 in
theorem concat_any {w : World} {v : Value} {m : Nat} (Ls : List (List Int)) (vs : List Value) (hr : Rd w 1 v m vs) (hl : vs.length = m) (hLl : Ls.length = m) (hm : m ≤ 1000)
    (hall : ∀ (k : Nat) (u : Value) (L : List Int), vs[k]? = some u → Ls[k]? = some L → Rd w 1 u L.length (nums L)) (hN : Ls.flatten.length ≤ 100000) :
    Calls Try.prog 33 #[v] w (Ret fun r w' => Own w w' [slc 3 1 r Ls.flatten.length (nums Ls.flatten)]) := by
  have H := Own.start w
  obtain ⟨a, c, rfl, hc1, hc2⟩ := hr.shape
  have HR := Lib.hid hr
  have HALL := Lib.hid hall
  have HL := Lib.hid hl
  have HLL := Lib.hid hLl
  clear hr hall hl hLl
  have hg : ∀ (n : Nat), n ≤ 1000000 → ∀ w, Calls Try.prog 50 #[.slice none 0 0, .int .i64 n] w (Ret fun r w' => Own w w' [slc 3 1 r 0 []]) := fun n hn w => grow_any n hn w
  have HG := Lib.hid hg
  clear hg
  obtain ⟨N, hNN⟩ : ∃ N, Hid (Ls.flatten.length = N) := ⟨_, rfl⟩
  rw [hNN.out] at hN ⊢
  obtain ⟨FL, hFL⟩ : ∃ FL, Hid (Ls.flatten = FL) := ⟨_, rfl⟩
  rw [hFL.out]
  go_enter Try.func33, Try.ntmps33
  go_wp2_with fail
  go_loopw [3, 11] (fun s3 s11 wx => ∃ k q : Nat, s11 = .int .i64 k ∧ k ≤ m ∧ s3 = .int .i64 q ∧ Hid ((flatN Ls k).length = q) ∧ q ≤ 100000 ∧ Own w wx []) (fun _ s11 _ => m - (intOf s11).toNat)
  case atStart => exact ⟨0, 0, by go_num, by omega, by go_num, Lib.hid (by simp [flatN]), by omega, H⟩
  case round =>
    clear H
    obtain ⟨k, q, rfl, hk, rfl, hq, hqN, H⟩ := hrel
    by_cases hlt : k < m
    · have hI : (k : Int) < (m : Int) := by omega
      obtain ⟨u, hu⟩ := get_of_lt (l := vs) (k := k) (by have := HL.out; omega)
      obtain ⟨L, hL⟩ := get_of_lt (l := Ls) (k := k) (by have := HLL.out; omega)
      obtain ⟨b, o, _, he, -⟩ := HR.out.some (by have := HL.out; omega)
      cases he
      have c0 := (HR.out.old H).cell hu
      have hu2 := HALL.out k u L hu hL
      obtain ⟨ua, uc, rfl, huc1, huc2⟩ := hu2.shape
      have hs := flatN_succ hL
      have hle := flatN_le Ls (k + 1)
      rw [hNN.out] at hle
      have hq2 : Hid ((flatN Ls (k + 1)).length = q + L.length) := Lib.hid (by rw [hs, List.length_append, hq.out])
      have hb : q + L.length ≤ 100000 := by have := hq2.out; omega
      obtain ⟨x, hx⟩ : ∃ x, Hid (L.length = x) := ⟨_, rfl⟩
      rw [hx.out] at hb hq2 huc1 c0
      have hw : IntKind.i64.wrap ((q : Int) + (x : Int)) = (q : Int) + (x : Int) := IntWalk.i64_in _ ⟨by omega, by omega⟩
      have hnn : ¬ ((q : Int) + (x : Int) < 0) := by omega
      clear hu hL hu2 hs hle
      go_wp2_with fail
      go_roundw
      case rel => exact ⟨k + 1, q + x, by go_num, by omega, by go_num, hq2, hb, H⟩
      case measure => simp [intOf]; omega
    · have hI : ¬ (k : Int) < (m : Int) := by omega
      go_wp2_with fail
      refine (HG.out q (by omega) _).mono ?_
      rintro e w2 ⟨v6, rfl, H2⟩
      have H := H.join H2
      clear H2
      obtain ⟨a6, c6, rfl, -⟩ := H.rd.shape
      go_wp2_with fail
      go_loopw [6, 27] (fun s6 s27 wx => ∃ k q : Nat, s27 = .int .i64 k ∧ k ≤ m ∧ Hid ((flatN Ls k).length = q) ∧ q ≤ 100000 ∧ Own w wx [slc 3 1 s6 q (nums (flatN Ls k))]) (fun _ s27 _ => m - (intOf s27).toNat)
      case atStart => exact ⟨0, 0, by go_num, by omega, Lib.hid (by simp [flatN]), by omega, H⟩
      case round =>
        clear H hq hqN
        obtain ⟨k, q, rfl, hk, hq, hqN, H⟩ := hrel
        rename_i v6 _
        obtain ⟨a6, c6, rfl, -⟩ := H.rd.shape
        by_cases hlt : k < m
        · have hI : (k : Int) < (m : Int) := by omega
          obtain ⟨u, hu⟩ := get_of_lt (l := vs) (k := k) (by have := HL.out; omega)
          obtain ⟨L, hL⟩ := get_of_lt (l := Ls) (k := k) (by have := HLL.out; omega)
          obtain ⟨b, o, _, he, -⟩ := HR.out.some (by have := HL.out; omega)
          cases he
          have c0 := (HR.out.old H).cell hu
          have hu2 := HALL.out k u L hu hL
          obtain ⟨ua, uc, rfl, huc1, huc2⟩ := hu2.shape
          have hs := flatN_succ hL
          have hle := flatN_le Ls (k + 1)
          rw [hNN.out] at hle
          obtain ⟨x, hx⟩ : ∃ x, Hid (L.length = x) := ⟨_, rfl⟩
          have hq2 : Hid ((flatN Ls (k + 1)).length = q + x) := Lib.hid (by rw [hs, List.length_append, hq.out, hx.out])
          have hb : q + x ≤ 100000 := by have := hq2.out; omega
          have hold := hu2.old H
          rw [hx.out] at huc1 c0 hold
          have HS := Lib.hid (show nums (flatN Ls k) ++ nums L = nums (flatN Ls (k + 1)) by rw [hs]; simp [nums])
          have HO := Lib.hid hold
          have H1 : Hid (∀ v ∈ nums L, v.oneCell' = true) := Lib.hid (fun v hv => by unfold nums at hv; obtain ⟨x, _, rfl⟩ := List.mem_map.1 hv; rfl)
          clear hu hL hu2 hs hle hold
          go_wp2_with (at_builtin; refine wpList_append_sep rfl _ _ rfl Try.underlying26 intInfo rfl (by decide) rfl H HO.out H1.out (by omega) (by omega) ?_; clear H c0; intro v' w' H; rw [HS.out] at H; obtain ⟨a8, c8, rfl, -⟩ := H.rd.shape)
          go_roundw
          case rel => exact ⟨k + 1, q + x, by go_num, by omega, hq2, hb, H⟩
          case measure => simp [intOf]; omega
        · have hI : ¬ (k : Int) < (m : Int) := by omega
          have hfl : flatN Ls k = Ls.flatten := by unfold flatN; rw [List.take_of_length_le (by have := HLL.out; omega)]
          have hqq : q = N := by rw [← hq.out, hfl, hNN.out]
          subst hqq
          rw [hfl, hFL.out] at H
          clear hfl hq
          go_wp2_with fail
          go_ret
          exact ⟨_, rfl, H⟩
end Go.Proofs.Yteoecchggjmffaa
/- flate: the walk of the fixed codes' lengths. -/
namespace Go.Proofs.Yteoecchggjmffaa
open Go.RowKit

theorem fixL_flat : [List.replicate 144 (8 : Int), List.replicate 112 9, List.replicate 24 7, List.replicate 8 8].flatten = fixL := by
  simp only [List.flatten_cons, List.flatten_nil, List.append_nil]; unfold fixL; simp only [List.append_assoc]
theorem one_row {w : World} {g : Nat} {a : Int} (h : w.heap[g]? = some (.cells #[.int .i64 a] 3)) : Rd w 1 (.slice (some ⟨g, 0, none⟩) 1 1) 1 (nums [a]) := by
  refine ⟨rfl, _, _, rfl, Nat.le_refl _, by decide, by simp, fun ad had j u hu => ?_⟩
  obtain rfl := Option.some.inj had
  rw [Addr.add_lit, Nat.zero_add, cell_of_block h]
  have : j = 0 := by have := (List.getElem?_eq_some_iff.1 hu).1; simpa [nums] using this
  subst this
  exact hu

set_option maxRecDepth 100000 in
set_option maxHeartbeats 3200000 in
theorem fixed_any (w : World) : Calls Try.prog 15 #[] w (Ret fun r w' => ∃ v u, r = .tuple #[v, u] ∧ Own w w' [slc 3 1 u 32 (nums fixD), slc 3 1 v 288 (nums fixL)]) := by
  have H := Own.start w
  go_enter Try.func15, Try.ntmps15
  go_wp2_with fail
  refine (repeat_any 144 (one_row (H.alloc (.cells #[.int .i64 8] 3)).block.1) (by omega)).mono ?_
  rintro e w1 ⟨v1, rfl, H1⟩
  have H := (H.alloc (.cells #[.int .i64 8] 3)).drop.join H1
  obtain ⟨a1, c1, rfl, -⟩ := H.rd.shape
  clear H1
  go_wp2_with fail
  refine (repeat_any 112 (one_row (H.alloc (.cells #[.int .i64 9] 3)).block.1) (by omega)).mono ?_
  rintro e w2 ⟨v2, rfl, H2⟩
  have H := (H.alloc (.cells #[.int .i64 9] 3)).drop.join H2
  obtain ⟨a2, c2, rfl, -⟩ := H.rd.shape
  clear H2
  go_wp2_with fail
  refine (repeat_any 24 (one_row (H.alloc (.cells #[.int .i64 7] 3)).block.1) (by omega)).mono ?_
  rintro e w3 ⟨v3, rfl, H3⟩
  have H := (H.alloc (.cells #[.int .i64 7] 3)).drop.join H3
  obtain ⟨a3, c3, rfl, -⟩ := H.rd.shape
  clear H3
  go_wp2_with fail
  refine (repeat_any 8 (one_row (H.alloc (.cells #[.int .i64 8] 3)).block.1) (by omega)).mono ?_
  rintro e w4 ⟨v4, rfl, H4⟩
  have H := (H.alloc (.cells #[.int .i64 8] 3)).drop.join H4
  obtain ⟨a4, c4, rfl, -⟩ := H.rd.shape
  clear H4
  go_wp2_with fail
  have H5 := H.alloc (.cells #[.slice a1 144 c1, .slice a2 112 c2, .slice a3 24 c3, .slice a4 8 c4] 26)
  have hrow : Rd (w4.alloc (.cells #[.slice a1 144 c1, .slice a2 112 c2, .slice a3 24 c3, .slice a4 8 c4] 26)) 1 (.slice (some ⟨w4.heap.size, 0, none⟩) 4 4) 4 [.slice a1 144 c1, .slice a2 112 c2, .slice a3 24 c3, .slice a4 8 c4] := by
    refine ⟨rfl, _, _, rfl, Nat.le_refl _, by decide, by simp, fun ad had j u hu => ?_⟩
    obtain rfl := Option.some.inj had
    rw [Addr.add_lit, Nat.zero_add, H5.cell]
    simpa using hu
  have h8 := (H5.front 1 rfl).rd
  have h24 := (H5.front 2 rfl).rd
  have h112 := (H5.front 3 rfl).rd
  have h144 := (H5.front 4 rfl).rd
  have hcc := concat_any [List.replicate 144 (8 : Int), List.replicate 112 9, List.replicate 24 7, List.replicate 8 8] [.slice a1 144 c1, .slice a2 112 c2, .slice a3 24 c3, .slice a4 8 c4] hrow rfl rfl (by omega) (fun k u L hu hL => by
    match k with
    | 0 => cases hu; cases hL; exact h144
    | 1 => cases hu; cases hL; exact h112
    | 2 => cases hu; cases hL; exact h24
    | 3 => cases hu; cases hL; exact h8
    | k + 4 => cases hu) (by rw [fixL_flat, fixL_ok.1]; omega)
  rw [fixL_flat, fixL_ok.1] at hcc
  refine hcc.mono ?_
  rintro e w5 ⟨v5, rfl, H6⟩
  have H := H5.bare.join H6
  obtain ⟨a5, c5, rfl, -⟩ := H.rd.shape
  clear H6 H5 hcc hrow h8 h24 h112 h144
  go_wp2_with fail
  refine (repeat_any 32 (one_row (H.alloc (.cells #[.int .i64 5] 3)).block.1) (by omega)).mono ?_
  rintro e w6 ⟨v6, rfl, H6⟩
  have H := (H.alloc (.cells #[.int .i64 5] 3)).drop.join H6
  obtain ⟨a6, c6, rfl, -⟩ := H.rd.shape
  clear H6
  go_wp2_with fail
  go_ret2
  exact ⟨_, rfl, _, _, rfl, H⟩
end Go.Proofs.Yteoecchggjmffaa
/- A map of the call's own whose elements are ints (0 where there is none): a look-up, a store, a delete. No program in sight. -/
namespace Go.Proofs.Yteoecchggjmffaa
open Go.RowKit Go.Maps
open Go.WideElems (Fit rg)

/-- The entries, as a datum. -/
def mdat (P : Program) (K E : TypeId) (es : Array MapEntry) : DataW Unit := .map ((es.toList.map (rg P K (plainElem (H := Unit) P E))).foldr DataW.insert [])
/-- A map: by its keys (those that a's are), ints; at most n entries. -/
def mpi (P : Program) (K E : TypeId) {α : Type} (enc : α → Value) (b n : Nat) (g : α → Int) : Piece := fun h =>
  ∃ es clock, h = [(b, .map es clock)] ∧ Fit P K (plainElem (H := Unit) P E) es clock ∧ es.size ≤ n ∧ ∀ a kl, keyOf P K (enc a) = some kl → (mdat P K E es).atKey kl (.lit (.int .i64 0)) = .lit (.int .i64 (g a))

section
variable {P : Program} {K E t : TypeId} {α : Type} {enc : α → Value} {b n : Nat} {g : α → Int} {w0 w : World} {ps : List Piece}
theorem Own.mpi_open (h : Own w0 w (mpi P K E enc b n g :: ps)) : ∃ es clock, Fit P K (plainElem (H := Unit) P E) es clock ∧ es.size ≤ n ∧ (∀ a kl, keyOf P K (enc a) = some kl → (mdat P K E es).atKey kl (.lit (.int .i64 0)) = .lit (.int .i64 (g a))) ∧ Own w0 w (blk b (.map es clock) :: ps) := by
  obtain ⟨hb, x, ⟨es, clock, rfl, h1, h2, h3⟩, r⟩ := h
  exact ⟨es, clock, h1, h2, h3, hb, _, rfl, r⟩
theorem Own.mpi_shut {es : Array MapEntry} {clock : Nat} (h1 : Fit P K (plainElem (H := Unit) P E) es clock) (h2 : es.size ≤ n) (h3 : ∀ a kl, keyOf P K (enc a) = some kl → (mdat P K E es).atKey kl (.lit (.int .i64 0)) = .lit (.int .i64 (g a)))
    (h : Own w0 w (blk b (.map es clock) :: ps)) : Own w0 w (mpi P K E enc b n g :: ps) := by
  obtain ⟨hb, x, rfl, r⟩ := h
  exact ⟨hb, _, ⟨es, clock, rfl, h1, h2, h3⟩, r⟩
theorem Own.mpi_new (h : Own w0 w ps) : Own w0 (w.alloc (.map #[] 0)) (mpi P K E enc w.heap.size 0 (fun _ => 0) :: ps) := by
  obtain ⟨es, clock, hb, F, hs, hD⟩ := World.ownsMap_made (H := Unit) w P K (plainElem P E)
  have hb' : (w.alloc (.map #[] 0)).heap[w.heap.size]? = some (.map #[] 0) := heap_alloc_new w _
  rw [hb'] at hb
  cases hb
  refine (h.alloc (.map #[] 0)).mpi_shut F (Nat.le_refl _) fun a kl _ => ?_
  unfold mdat
  rw [← hD]
  rfl
theorem mpi_lookup (h : Own w0 w (mpi P K E enc b n g :: ps)) (hK : Keyed P K) (ht : P.underlying t = some (.map K E)) (he : P.underlying E = some (.int .i64)) (hz : (zeroValue E).run P w = .ok (.int .i64 0) w)
    {a : α} {kl : Lit} (hkey : keyOf P K (enc a) = some kl) : (Instr.lookup t (.map (some b)) (enc a) false).run P w = .ok (.int .i64 (g a)) w := by
  obtain ⟨es, clock, F, hs, hg, h⟩ := h.mpi_open
  have hown : w.ownsMap P K (plainElem (H := Unit) P E) b n (mdat P K E es) := ⟨es, clock, h.block.1, F, hs, rfl⟩
  obtain ⟨c, hrun, hat, _⟩ := hown.lookup_int hK ht he hz hkey
  rw [hg a kl hkey] at hat
  cases hat
  exact hrun
variable [DecidableEq α]
theorem mpi_update (h : Own w0 w (mpi P K E enc b n g :: ps)) (hK : Keyed P K) (ht : P.underlying t = some (.map K E)) (he : P.underlying E = some (.int .i64)) (hn : n < 9223372036854775807) (henc : ∀ x y, enc x = enc y → x = y)
    {a : α} {kl : Lit} (hkey : keyOf P K (enc a) = some kl) {c : Int} (hc : -9223372036854775808 ≤ c ∧ c ≤ 9223372036854775807) :
    ∃ w', (Instr.mapUpdate t (.map (some b)) (enc a) (.int .i64 c)).run P w = .ok () w' ∧ Own w0 w' (mpi P K E enc b (n + 1) (fun x => if x = a then c else g x) :: ps) := by
  obtain ⟨es, clock, F, hs, hg, h⟩ := h.mpi_open
  have hown : w.ownsMap P K (plainElem (H := Unit) P E) b n (mdat P K E es) := ⟨es, clock, h.block.1, F, hs, rfl⟩
  have hwf : (Lit.int .i64 c).wf = true := WalkArith.wf_i64 (by omega)
  obtain ⟨w', hrun, ⟨es', clock', hb', F', hs', hD⟩, hgr⟩ := hown.update hK ht (by unfold maxLen; omega) hkey (plainElem_int he hwf)
  refine ⟨w', hrun, Own.mpi_shut F' hs' (fun x kx hx => ?_) (h.turn hgr.os hgr.tape hgr.output hgr.size hb' fun k hk hne => hgr.block k hk (by simpa using hne))⟩
  show (DataW.map _).atKey kx _ = _
  rw [← hD]
  by_cases hxa : x = a
  · subst hxa
    rw [hkey] at hx
    cases hx
    rw [if_pos rfl]
    exact atKey_put_same ⟨_, rfl⟩ (hK.key hkey) _ _
  · rw [if_neg hxa, atKey_put_other]
    · exact hg x kx hx
    · rintro rfl
      exact hxa (henc _ _ (hK.inj hx hkey))
theorem mpi_delete {ty : TypeId} (h : Own w0 w (mpi P K E enc b n g :: ps)) (hK : Keyed P K) (ht : P.underlying t = some (.map K E)) (henc : ∀ x y, enc x = enc y → x = y)
    {a : α} {kl : Lit} (hkey : keyOf P K (enc a) = some kl) :
    ∃ w', (Builtin.delete_ #[t, K] ty #[.map (some b), enc a]).run P w = .ok (.tuple #[]) w' ∧ Own w0 w' (mpi P K E enc b n (fun x => if x = a then 0 else g x) :: ps) := by
  obtain ⟨es, clock, F, hs, hg, h⟩ := h.mpi_open
  obtain ⟨es', hrun, F', hs', hD, _⟩ := fit_drop (ty := ty) hK ht h.block.1 F hkey
  refine ⟨_, hrun, Own.mpi_shut F' (Nat.le_trans hs' hs) (fun x kx hx => ?_) (h.turn rfl rfl rfl (by simp [Go.ChangeMaps.setBlock]) (Go.ChangeMaps.heap_setBlock_same h.block.1 _) fun k hk hne => Go.ChangeMaps.heap_setBlock_other h.block.1 _ hne)⟩
  have hput : mdat P K E es' = (mdat P K E es).del kl := by
    unfold mdat
    rw [hD]
    rfl
  rw [hput]
  by_cases hxa : x = a
  · subst hxa
    rw [hkey] at hx
    cases hx
    rw [if_pos rfl]
    exact atKey_del_same _
  · rw [if_neg hxa, atKey_del_other]
    · exact hg x kx hx
    · rintro rfl
      exact hxa (henc _ _ (hK.inj hx hkey))
end

section
variable {P : Program} {K E t : TypeId} {α : Type} {enc : α → Value} {b n : Nat} {g : α → Int} {w0 w : World} {ps : List Piece} [DecidableEq α]
variable {ops : Array Oper} {rest : List Oper} {o : Oper} {act : Act} {Q : Exit → Act → World → Prop}
/-- 'm[k] = v' in a walk. -/
theorem wpList_update_mpi (hgd : o.guard = none) (m x v : Operand) (hop : o.op = .mapUpdate t m x v) (H : Own w0 w (mpi P K E enc b n g :: ps)) (hK : Keyed P K) (ht : P.underlying t = some (.map K E)) (he : P.underlying E = some (.int .i64)) (hn : n < 9223372036854775807) (henc : ∀ x y, enc x = enc y → x = y)
    (hm : act.eval m = .map (some b)) {a : α} (hx : act.eval x = enc a) {kl : Lit} (hkey : keyOf P K (enc a) = some kl) {c : Int} (hv : act.eval v = .int .i64 c) (hc : -9223372036854775808 ≤ c ∧ c ≤ 9223372036854775807)
    (h : ∀ w', Own w0 w' (mpi P K E enc b (n + 1) (fun x => if x = a then c else g x) :: ps) → wpList P ops Q rest (act.put o.dst undef) w') : wpList P ops Q (o :: rest) act w := by
  refine wpList_plain hgd fun K' hK' => ?_
  obtain ⟨w', hrun, h2⟩ := mpi_update H hK ht he hn henc hkey hc
  unfold Oper.wp
  simp [execOp, hop, hm, hx, hv, hrun, Result.andThen]
  exact hK' _ _ (h w' h2)
end
end Go.Proofs.Yteoecchggjmffaa
/- lz: the map's keys, three bytes. -/
namespace Go.Proofs.Yteoecchggjmffaa
open Go.RowKit Go.Maps Go.ChangeShapes Go.WideShapes

/-- Three bytes, as a key. -/
def k3 (k : UInt8 × UInt8 × UInt8) : Value := .agg #[.int .u8 k.1.toNat, .int .u8 k.2.1.toNat, .int .u8 k.2.2.toNat]
set_option maxRecDepth 100000 in
theorem k3_inj (a b : UInt8 × UInt8 × UInt8) (h : k3 a = k3 b) : a = b := by
  obtain ⟨a0, a1, a2⟩ := a
  obtain ⟨b0, b1, b2⟩ := b
  simp only [k3, Value.agg.injEq, Array.mk.injEq, List.cons.injEq, Value.int.injEq, true_and, and_true] at h
  obtain ⟨h0, h1, h2⟩ := h
  have e0 : a0 = b0 := UInt8.toNat_inj.1 (by omega)
  have e1 : a1 = b1 := UInt8.toNat_inj.1 (by omega)
  have e2 : a2 = b2 := UInt8.toNat_inj.1 (by omega)
  rw [e0, e1, e2]
set_option maxRecDepth 100000 in
theorem k3_laidOut : laidOutB Try.prog = true := by kernel_rfl
set_option maxRecDepth 100000 in
theorem k3_row : (88 : TypeId) < Try.prog.types.size := of_decide_eq_true (by kernel_rfl)
set_option maxRecDepth 100000 in
theorem k3_deep : Try.prog.keyTypeAt (Try.prog.types.size + 1) 88 = true := by kernel_rfl
set_option maxRecDepth 100000 in
theorem k3_wide : (match Try.prog.underlying 88 with | some (.array _ _) | some (.struct _) => true | _ => false) = true := by rw [Try.underlying88]
set_option maxRecDepth 100000 in
theorem k3_law : Keyed Try.prog 88 := Keyed.of_law (deep_law_laid k3_laidOut (m := 2) (by omega) k3_row (by kernel_rfl) k3_wide)
set_option maxRecDepth 100000 in
theorem k3_key (w : World) (k : UInt8 × UInt8 × UInt8) : ∃ kl, keyOf Try.prog 88 (k3 k) = some kl := by
  have hc : Try.prog.cellsOf 88 = 3 := by kernel_rfl
  have hc1 : Try.prog.cellsOf 5 = 1 := by kernel_rfl
  have hf : (k3 k).formed Try.prog 88 = true := by simp [k3, Value.formed, Try.underlying88, hc]
  have h0 := k.1.toNat_lt
  have h1 := k.2.1.toNat_lt
  have h2 := k.2.2.toNat_lt
  have w0 : (Lit.int .u8 (k.1.toNat : Int)).wf = true := by simp [Lit.wf, IntKind.min, IntKind.max, IntKind.bits, IntKind.signed]; omega
  have w1 : (Lit.int .u8 (k.2.1.toNat : Int)).wf = true := by simp [Lit.wf, IntKind.min, IntKind.max, IntKind.bits, IntKind.signed]; omega
  have w2 : (Lit.int .u8 (k.2.2.toNat : Int)).wf = true := by simp [Lit.wf, IntKind.min, IntKind.max, IntKind.bits, IntKind.signed]; omega
  have ht : DataW.Trod (H := Unit) (fun _ => ()) Try.prog w 0 (fun _ => true) true 88 (k3 k) (.agg [.lit (.int .u8 k.1.toNat), .lit (.int .u8 k.2.1.toNat), .lit (.int .u8 k.2.2.toNat)]) [] := by
    refine ⟨2, ?_⟩
    simp [DataW.trod, k3, Value.cells, Try.underlying88, Try.underlying5, hc, hc1, w0, w1, w2, List.range, List.range.loop]
  exact ⟨_, (keyOf_asKey k3_deep k3_wide hf ht).1⟩
end Go.Proofs.Yteoecchggjmffaa
/- lz: the walks of the finder's parts that only look. -/
namespace Go.Proofs.Yteoecchggjmffaa
open Go.RowKit

set_option maxRecDepth 100000 in
theorem byt_is {s : ByteArray} {i : Nat} (h : i < s.size) : s[i] = byt s i := by
  unfold byt
  simp [Array.getD, h]
  rfl

set_option maxRecDepth 100000 in
set_option maxHeartbeats 1600000 in
theorem fkey_any {w0 w : World} {ps : List Piece} {g : Nat} {s : ByteArray} {m v : Value} {i : Nat} (H : Own w0 w (blk g (.cells #[.string s, m, v] 61) :: ps)) (hi : i + 3 ≤ s.size) (hs : s.size ≤ 1000000) :
    Calls Try.prog 64 #[.pointer (some ⟨g, 0, none⟩), .int .i64 i] w (Ret fun r w' => r = k3 (key3 s i) ∧ Own w0 w' (blk g (.cells #[.string s, m, v] 61) :: ps)) := by
  obtain ⟨j, hj⟩ : ∃ j, Hid (i + 1 = j) := ⟨_, rfl⟩
  obtain ⟨k, hk⟩ : ∃ k, Hid (i + 2 = k) := ⟨_, rfl⟩
  have h0 : i < s.size := by omega
  have h1 : j < s.size := by have := hj.out; omega
  have h2 : k < s.size := by have := hk.out; omega
  have hI1 : (i : Int) + 1 = (j : Int) := by have := hj.out; omega
  have hI2 : (i : Int) + 2 = (k : Int) := by have := hk.out; omega
  have hw1 : IntKind.i64.wrap (j : Int) = (j : Int) := IntWalk.i64_in _ ⟨by omega, by omega⟩
  have hw2 : IntKind.i64.wrap (k : Int) = (k : Int) := IntWalk.i64_in _ ⟨by omega, by omega⟩
  have e0 := byt_is h0
  have e1 := byt_is h1
  have e2 := byt_is h2
  have hk3 : Hid (k3 (key3 s i) = .agg #[.int .u8 (byt s i).toNat, .int .u8 (byt s j).toNat, .int .u8 (byt s k).toNat]) := Lib.hid (by rw [← hj.out, ← hk.out]; rfl)
  clear hi
  go_enter Try.func64, Try.ntmps64
  go_upto_region 1 with (fail)
  have H1 := H.alloc (.cells #[.int .u8 0, .int .u8 0, .int .u8 0] 88)
  clear H
  generalize hc : w.heap.size = c at *
  generalize w.alloc (.cells #[.int .u8 0, .int .u8 0, .int .u8 0] 88) = wa at *
  refine wp_region_calm (fun w1 => Own w0 w1 (blk c (.cells #[.int .u8 0, .int .u8 0, .int .u8 0] 88) :: blk g (.cells #[.string s, m, v] 61) :: ps)) 21 (by kernel_rfl) (by kernel_rfl) H1.drew ?_
  simp only [List.take_succ_cons, List.take_zero, List.drop_succ_cons, List.drop_zero]
  repeat
    first
    | (refine calm_value (v := ?_) (by decide) rfl (fun σ w1 hS => ?_) ?_
       rotate_left
       · have c0 := hS.swap.cells
         first | (go_simp; rfl) | rfl
       simp only [Act.put, List.setIfInBounds_toArray, List.set_cons_zero, List.set_cons_succ])
    | (refine calm_skip (by decide) rfl ?_
       simp only [Act.put, List.setIfInBounds_toArray, List.set_cons_zero, List.set_cons_succ])
  refine calm_nil ?_
  intro wd HD
  clear H1
  go_wp2_with (first
    | (refine wpList_store_agg rfl _ _ rfl rfl HD rfl (by kernel_rfl) (by simp) (by simp; exact ⟨rfl, rfl, rfl⟩) rfl ?_; clear HD; intro w5 H; have c0 := H.cells))
  refine bodyPost_ret (results_cell_row rfl _ _ c _ _ _ _ rfl H.block.1 Try.underlying88 rfl (by kernel_rfl)) rfl ?_
  exact ⟨_, rfl, by rw [hk3.out]; rfl, H.drop⟩

set_option maxRecDepth 100000 in
set_option maxHeartbeats 1600000 in
theorem fsame_any {w0 w : World} {ps : List Piece} {g : Nat} {s : ByteArray} {m v : Value} {x y : Nat} (H : Own w0 w (blk g (.cells #[.string s, m, v] 61) :: ps)) (hxy : x ≤ y) (hy : y ≤ s.size) (hs : s.size ≤ 1000000) :
    Calls Try.prog 65 #[.pointer (some ⟨g, 0, none⟩), .int .i64 x, .int .i64 y] w (Ret fun r w' => r = .int .i64 (comm s x y) ∧ Own w0 w' (blk g (.cells #[.string s, m, v] 61) :: ps)) := by
  go_enter Try.func65, Try.ntmps65
  go_wp2_with fail
  go_loopw [7] (fun s7 wr => ∃ n : Nat, s7 = .int .i64 n ∧ n ≤ 258 ∧ Hid (∀ j, j < n → y + j < s.size ∧ byt s (x + j) = byt s (y + j)) ∧ Own w0 wr (blk g (.cells #[.string s, m, v] 61) :: ps)) (fun s7 _ => 258 - (intOf s7).toNat)
  case atStart => exact ⟨0, by simp, by omega, Lib.hid (fun j hj => by omega), H⟩
  case round =>
    clear H
    obtain ⟨n, rfl, hn, hall, H⟩ := hrel
    by_cases h1 : n < 258
    · have h1I : (n : Int) < 258 := by omega
      obtain ⟨q, hq⟩ : ∃ q, Hid (y + n = q) := ⟨_, rfl⟩
      obtain ⟨p, hp⟩ : ∃ p, Hid (x + n = p) := ⟨_, rfl⟩
      have hqI : (y : Int) + (n : Int) = (q : Int) := by have := hq.out; omega
      have hpI : (x : Int) + (n : Int) = (p : Int) := by have := hp.out; omega
      have hqm : q ≤ 2000000 := by have := hq.out; omega
      have hpq : p ≤ q := by have := hq.out; have := hp.out; omega
      have hw1 : IntKind.i64.wrap (q : Int) = (q : Int) := IntWalk.i64_in _ ⟨by omega, by omega⟩
      have hw2 : IntKind.i64.wrap (p : Int) = (p : Int) := IntWalk.i64_in _ ⟨by omega, by omega⟩
      by_cases h2 : q < s.size
      · have h2I : (q : Int) < (s.size : Int) := by omega
        have h3 : p < s.size := by omega
        have e0 := byt_is h2
        have e1 := byt_is h3
        obtain ⟨t, ht⟩ : ∃ t, Hid (decide (byt s p = byt s q) = t) := ⟨_, rfl⟩
        have htI : (((byt s p).toNat : Int) == ((byt s q).toNat : Int)) = t := by
          rw [← ht.out]
          by_cases hb : byt s p = byt s q
          · simp [hb]
          · have : (byt s p).toNat ≠ (byt s q).toNat := fun h => hb (UInt8.toNat_inj.1 h)
            simp [hb]
            omega
        go_upto_region 2 with (fail)
        refine wp_region_calm (fun w1 => Own w0 w1 (blk g (.cells #[.string s, m, v] 61) :: ps)) 32 (by kernel_rfl) (by kernel_rfl) H.drew ?_
        simp only [List.take_succ_cons, List.take_zero, List.drop_succ_cons, List.drop_zero]
        repeat
          first
          | (refine calm_value (v := ?_) (by decide) rfl (fun σ w1 hS => ?_) ?_
             rotate_left
             · have c0 := hS.cells
               first | (go_simp; rfl) | rfl
             simp only [Act.put, List.setIfInBounds_toArray, List.set_cons_zero, List.set_cons_succ])
          | (refine calm_skip (by decide) rfl ?_
             simp only [Act.put, List.setIfInBounds_toArray, List.set_cons_zero, List.set_cons_succ])
        refine calm_nil ?_
        intro wd HD
        clear H
        cases t with
        | true =>
          have hb : byt s p = byt s q := by simpa using ht.out
          have hall' : Hid (∀ j, j < n + 1 → y + j < s.size ∧ byt s (x + j) = byt s (y + j)) := Lib.hid (by
            intro j hj
            by_cases hjn : j = n
            · subst hjn
              rw [hq.out, hp.out]
              exact ⟨h2, hb⟩
            · exact hall.out j (by omega))
          clear hb ht htI
          go_wp2
          go_roundw
          case rel => exact ⟨n + 1, by go_num, by omega, hall', HD⟩
          case measure => simp [intOf]; omega
        | false =>
          have hfin : Hid (comm s x y = n) := Lib.hid (comm_is (by omega) hall.out (.inr (by rw [hq.out, hp.out]; intro h; have := ht.out; simp at this; exact this h.2)))
          clear ht htI
          go_wp2
          go_ret
          exact ⟨_, rfl, by rw [hfin.out]; rfl, HD⟩
      · have h2I : ¬ (q : Int) < (s.size : Int) := by omega
        have hfin : Hid (comm s x y = n) := Lib.hid (comm_is (by omega) hall.out (.inr (by rw [hq.out]; intro h; exact h2 h.1)))
        go_upto_region 2 with (fail)
        refine wp_region_calm (fun w1 => Own w0 w1 (blk g (.cells #[.string s, m, v] 61) :: ps)) 32 (by kernel_rfl) (by kernel_rfl) H.drew ?_
        simp only [List.take_succ_cons, List.take_zero, List.drop_succ_cons, List.drop_zero]
        repeat
          first
          | (refine calm_value (v := ?_) (by decide) rfl (fun σ w1 hS => ?_) ?_
             rotate_left
             · have c0 := hS.cells
               first | (go_simp; rfl) | rfl
             simp only [Act.put, List.setIfInBounds_toArray, List.set_cons_zero, List.set_cons_succ])
          | (refine calm_skip (by decide) rfl ?_
             simp only [Act.put, List.setIfInBounds_toArray, List.set_cons_zero, List.set_cons_succ])
        refine calm_nil ?_
        intro wd HD
        clear H
        go_wp2
        go_ret
        exact ⟨_, rfl, by rw [hfin.out]; rfl, HD⟩
    · have h1I : ¬ (n : Int) < 258 := by omega
      have hfin : Hid (comm s x y = n) := Lib.hid (comm_is (by omega) hall.out (.inl (by omega)))
      go_upto_region 2 with (fail)
      refine wp_region_calm (fun w1 => Own w0 w1 (blk g (.cells #[.string s, m, v] 61) :: ps)) 32 (by kernel_rfl) (by kernel_rfl) H.drew ?_
      simp only [List.take_succ_cons, List.take_zero, List.drop_succ_cons, List.drop_zero]
      repeat
        first
        | (refine calm_value (v := ?_) (by decide) rfl (fun σ w1 hS => ?_) ?_
           rotate_left
           · have c0 := hS.cells
             first | (go_simp; rfl) | rfl
           simp only [Act.put, List.setIfInBounds_toArray, List.set_cons_zero, List.set_cons_succ])
        | (refine calm_skip (by decide) rfl ?_
           simp only [Act.put, List.setIfInBounds_toArray, List.set_cons_zero, List.set_cons_succ])
      refine calm_nil ?_
      intro wd HD
      clear H
      go_wp2
      go_ret
      exact ⟨_, rfl, by rw [hfin.out]; rfl, HD⟩

set_option maxRecDepth 100000 in
set_option maxHeartbeats 1600000 in
theorem common_any {w0 w : World} {ps : List Piece} {s : ByteArray} {x y : Nat} (H : Own w0 w ps) (hxy : x ≤ y) (hy : y ≤ s.size) (hs : s.size ≤ 1000000) :
    Calls Try.prog 56 #[.string s, .int .i64 x, .int .i64 y] w (Ret fun r w' => r = .int .i64 (comm s x y) ∧ Own w0 w' ps) := by
  go_enter Try.func56, Try.ntmps56
  go_wp2_with fail
  go_loopw [7] (fun s7 wr => ∃ n : Nat, s7 = .int .i64 n ∧ n ≤ 258 ∧ Hid (∀ j, j < n → y + j < s.size ∧ byt s (x + j) = byt s (y + j)) ∧ Own w0 wr ps) (fun s7 _ => 258 - (intOf s7).toNat)
  case atStart => exact ⟨0, by simp, by omega, Lib.hid (fun j hj => by omega), H⟩
  case round =>
    clear H
    obtain ⟨n, rfl, hn, hall, H⟩ := hrel
    by_cases h1 : n < 258
    · have h1I : (n : Int) < 258 := by omega
      obtain ⟨q, hq⟩ : ∃ q, Hid (y + n = q) := ⟨_, rfl⟩
      obtain ⟨p, hp⟩ : ∃ p, Hid (x + n = p) := ⟨_, rfl⟩
      have hqI : (y : Int) + (n : Int) = (q : Int) := by have := hq.out; omega
      have hpI : (x : Int) + (n : Int) = (p : Int) := by have := hp.out; omega
      have hqm : q ≤ 2000000 := by have := hq.out; omega
      have hpq : p ≤ q := by have := hq.out; have := hp.out; omega
      have hw1 : IntKind.i64.wrap (q : Int) = (q : Int) := IntWalk.i64_in _ ⟨by omega, by omega⟩
      have hw2 : IntKind.i64.wrap (p : Int) = (p : Int) := IntWalk.i64_in _ ⟨by omega, by omega⟩
      by_cases h2 : q < s.size
      · have h2I : (q : Int) < (s.size : Int) := by omega
        have h3 : p < s.size := by omega
        have e0 := byt_is h2
        have e1 := byt_is h3
        obtain ⟨t, ht⟩ : ∃ t, Hid (decide (byt s p = byt s q) = t) := ⟨_, rfl⟩
        have htI : (((byt s p).toNat : Int) == ((byt s q).toNat : Int)) = t := by
          rw [← ht.out]
          by_cases hb : byt s p = byt s q
          · simp [hb]
          · have : (byt s p).toNat ≠ (byt s q).toNat := fun h => hb (UInt8.toNat_inj.1 h)
            simp [hb]
            omega
        go_upto_region 2 with (fail)
        refine wp_region_calm (fun w1 => Own w0 w1 ps) 23 (by kernel_rfl) (by kernel_rfl) H.drew ?_
        simp only [List.take_succ_cons, List.take_zero, List.drop_succ_cons, List.drop_zero]
        repeat
          first
          | (refine calm_value (v := ?_) (by decide) rfl (fun σ w1 hS => ?_) ?_
             rotate_left
             · skip
               first | (go_simp; rfl) | rfl
             simp only [Act.put, List.setIfInBounds_toArray, List.set_cons_zero, List.set_cons_succ])
          | (refine calm_skip (by decide) rfl ?_
             simp only [Act.put, List.setIfInBounds_toArray, List.set_cons_zero, List.set_cons_succ])
        refine calm_nil ?_
        intro wd HD
        clear H
        cases t with
        | true =>
          have hb : byt s p = byt s q := by simpa using ht.out
          have hall' : Hid (∀ j, j < n + 1 → y + j < s.size ∧ byt s (x + j) = byt s (y + j)) := Lib.hid (by
            intro j hj
            by_cases hjn : j = n
            · subst hjn
              rw [hq.out, hp.out]
              exact ⟨h2, hb⟩
            · exact hall.out j (by omega))
          clear hb ht htI
          go_wp2
          go_roundw
          case rel => exact ⟨n + 1, by go_num, by omega, hall', HD⟩
          case measure => simp [intOf]; omega
        | false =>
          have hfin : Hid (comm s x y = n) := Lib.hid (comm_is (by omega) hall.out (.inr (by rw [hq.out, hp.out]; intro h; have := ht.out; simp at this; exact this h.2)))
          clear ht htI
          go_wp2
          go_ret
          exact ⟨_, rfl, by rw [hfin.out]; rfl, HD⟩
      · have h2I : ¬ (q : Int) < (s.size : Int) := by omega
        have hfin : Hid (comm s x y = n) := Lib.hid (comm_is (by omega) hall.out (.inr (by rw [hq.out]; intro h; exact h2 h.1)))
        go_upto_region 2 with (fail)
        refine wp_region_calm (fun w1 => Own w0 w1 ps) 23 (by kernel_rfl) (by kernel_rfl) H.drew ?_
        simp only [List.take_succ_cons, List.take_zero, List.drop_succ_cons, List.drop_zero]
        repeat
          first
          | (refine calm_value (v := ?_) (by decide) rfl (fun σ w1 hS => ?_) ?_
             rotate_left
             · skip
               first | (go_simp; rfl) | rfl
             simp only [Act.put, List.setIfInBounds_toArray, List.set_cons_zero, List.set_cons_succ])
          | (refine calm_skip (by decide) rfl ?_
             simp only [Act.put, List.setIfInBounds_toArray, List.set_cons_zero, List.set_cons_succ])
        refine calm_nil ?_
        intro wd HD
        clear H
        go_wp2
        go_ret
        exact ⟨_, rfl, by rw [hfin.out]; rfl, HD⟩
    · have h1I : ¬ (n : Int) < 258 := by omega
      have hfin : Hid (comm s x y = n) := Lib.hid (comm_is (by omega) hall.out (.inl (by omega)))
      go_upto_region 2 with (fail)
      refine wp_region_calm (fun w1 => Own w0 w1 ps) 23 (by kernel_rfl) (by kernel_rfl) H.drew ?_
      simp only [List.take_succ_cons, List.take_zero, List.drop_succ_cons, List.drop_zero]
      repeat
        first
        | (refine calm_value (v := ?_) (by decide) rfl (fun σ w1 hS => ?_) ?_
           rotate_left
           · skip
             first | (go_simp; rfl) | rfl
           simp only [Act.put, List.setIfInBounds_toArray, List.set_cons_zero, List.set_cons_succ])
        | (refine calm_skip (by decide) rfl ?_
           simp only [Act.put, List.setIfInBounds_toArray, List.set_cons_zero, List.set_cons_succ])
      refine calm_nil ?_
      intro wd HD
      clear H
      go_wp2
      go_ret
      exact ⟨_, rfl, by rw [hfin.out]; rfl, HD⟩
end Go.Proofs.Yteoecchggjmffaa
/- A look-up in a map of ints, in a region that draws its order. -/
namespace Go.Proofs.Yteoecchggjmffaa
open Go.RowKit Go.Maps

section
variable {P : Program} {ops : Array Oper} {S : Sig → World → Prop} {nw : List Nat} {R : Act → Prop} {a : Act} {o : Oper} {rest : List Oper} {i : Nat}
variable {K E t : TypeId} {α : Type} {enc : α → Value} {b n : Nat} {g : α → Int} {w0 : World}
theorem calm_lookup (m x : Operand) (hi : i ∉ nw) (hw : Region.wanted o (yielded ops a.tmps) = true) (ho : o.op = .lookup t m x false) (hm : a.eval m = .map (some b)) {k : α} (hx : a.eval x = enc k)
    (hS : ∀ σ w, S σ w → ∃ ps, Own w0 w (mpi P K E enc b n g :: ps)) (hK : Keyed P K) (ht : P.underlying t = some (.map K E)) (he : P.underlying E = some (.int .i64)) (hz : ∀ w, (zeroValue E).run P w = .ok (.int .i64 0) w)
    {kl : Lit} (hkey : keyOf P K (enc k) = some kl)
    (h : calm P ops S nw R (i + 1) rest (a.put o.dst (.int .i64 (g k)))) : calm P ops S nw R i (o :: rest) a :=
  calm_value hi hw (fun σ w hs => by
    obtain ⟨ps, H⟩ := hS σ w hs
    have hr := mpi_lookup H hK ht he (hz w) hkey
    simp [execOp, ho, hm, hx, hr]) h
theorem Own.mpi_mono {w : World} {ps : List Piece} {m : Nat} (h : Own w0 w (mpi P K E enc b n g :: ps)) (hm : n ≤ m) : Own w0 w (mpi P K E enc b m g :: ps) :=
  h.imp fun _ ⟨es, clock, h1, h2, h3, h4⟩ => ⟨es, clock, h1, h2, by omega, h4⟩
end
end Go.Proofs.Yteoecchggjmffaa
/- lz: the walks of put and find. -/
namespace Go.Proofs.Yteoecchggjmffaa
open Go.RowKit Go.Maps

/-- What the map has. -/
def gOf (s : ByteArray) (i : Nat) : UInt8 × UInt8 × UInt8 → Int := fun k => (prev s k i : Int)
set_option maxRecDepth 100000 in
theorem gOf_zero (s : ByteArray) : gOf s 0 = fun _ => 0 := rfl
set_option maxRecDepth 100000 in
theorem gOf_put {s : ByteArray} {i : Nat} (h : i + 3 ≤ s.size) : gOf s (i + 1) = fun x => if x = key3 s i then (i : Int) + 1 else gOf s i x := by
  funext x
  unfold gOf
  rw [prev]
  by_cases hx : x = key3 s i
  · subst hx
    rw [if_pos ⟨h, rfl⟩, if_pos rfl]
    omega
  · rw [if_neg (fun hh => hx hh.2.symm), if_neg hx]
set_option maxRecDepth 100000 in
theorem gOf_skip {s : ByteArray} {i : Nat} (h : ¬ i + 3 ≤ s.size) : gOf s (i + 1) = gOf s i := by
  funext x
  unfold gOf
  rw [prev, if_neg (fun hh => h hh.1)]
structure Backs (s : ByteArray) (i : Nat) (xs : List Int) : Prop where
  len : xs.length = s.size
  get : ∀ q, q < i → q + 3 ≤ s.size → xs[q]? = some (prev s (key3 s q) q : Int)
set_option maxRecDepth 100000 in
theorem Backs.put {s : ByteArray} {i : Nat} {xs : List Int} (h : Backs s i xs) (hi : i + 3 ≤ s.size) : Backs s (i + 1) (xs.set i (prev s (key3 s i) i : Int)) := by
  refine ⟨by simpa using h.len, fun q h1 h2 => ?_⟩
  have hl := h.len
  rw [List.getElem?_set]
  by_cases hq : i = q
  · subst hq
    rw [if_pos rfl, if_pos (by omega)]
  · rw [if_neg hq]
    exact h.get q (by omega) h2
set_option maxRecDepth 100000 in
theorem Backs.skip {s : ByteArray} {i : Nat} {xs : List Int} (h : Backs s i xs) (hi : ¬ i + 3 ≤ s.size) : Backs s (i + 1) xs :=
  ⟨h.len, fun q h1 h2 => h.get q (by omega) h2⟩
/-- A finder that noted the places ahead of i. -/
def Fnd (g : Nat) (s : ByteArray) (i : Nat) : Piece := ex fun p : Nat × Value × List Int =>
  star (blk g (.cells #[.string s, .map (some p.1), p.2.1] 61)) (star (mpi Try.prog 88 3 k3 p.1 i (gOf s i)) (star (slc 3 1 p.2.1 s.size (nums p.2.2)) (fact (Backs s i p.2.2))))
section
variable {w0 w : World} {ps : List Piece} {g b i : Nat} {s : ByteArray} {xs : List Int} {v : Value}
set_option maxRecDepth 100000 in
theorem fnd_open (h : Own w0 w (Fnd g s i :: ps)) : ∃ b v xs, Backs s i xs ∧ Own w0 w (blk g (.cells #[.string s, .map (some b), v] 61) :: mpi Try.prog 88 3 k3 b i (gOf s i) :: slc 3 1 v s.size (nums xs) :: ps) := by
  obtain ⟨⟨b, v, xs⟩, h⟩ := h.ex
  have h := h.star.swap.star.swap.star.swap.fact
  exact ⟨b, v, xs, h.1, (h.2.swap.front 2 rfl)⟩
set_option maxRecDepth 100000 in
theorem fnd_shut (hb : Backs s i xs) (h : Own w0 w (blk g (.cells #[.string s, .map (some b), v] 61) :: mpi Try.prog 88 3 k3 b i (gOf s i) :: slc 3 1 v s.size (nums xs) :: ps)) : Own w0 w (Fnd g s i :: ps) :=
  Own.unex (f := fun p : Nat × Value × List Int => Go.Proofs.Yteoecchggjmffaa.star (blk g (.cells #[.string s, .map (some p.1), p.2.1] 61)) (Go.Proofs.Yteoecchggjmffaa.star (mpi Try.prog 88 3 k3 p.1 i (gOf s i)) (Go.Proofs.Yteoecchggjmffaa.star (slc 3 1 p.2.1 s.size (nums p.2.2)) (Go.Proofs.Yteoecchggjmffaa.fact (Backs s i p.2.2))))) (b, v, xs)
    ((((h.front 2 rfl).unfact hb).swap.unstar.front 2 rfl).unstar.swap.unstar)
end
set_option maxRecDepth 100000 in
theorem intZero : ∀ w, (zeroValue 3).run Try.prog w = .ok (.int .i64 0) w := fun w => by kernel_rfl

set_option maxRecDepth 100000 in
set_option maxHeartbeats 1600000 in
theorem fput_any {w0 w : World} {ps : List Piece} {g i : Nat} {s : ByteArray} (H : Own w0 w (Fnd g s i :: ps)) (hi : i < s.size) (hs : s.size ≤ 1000000) :
    Calls Try.prog 49 #[.pointer (some ⟨g, 0, none⟩), .int .i64 i] w (Ret fun _ w' => Own w0 w' (Fnd g s (i + 1) :: ps)) := by
  obtain ⟨b, v, xs, hb, H⟩ := fnd_open H
  have c0 := H.cells
  obtain ⟨z, hz⟩ : ∃ z, Hid (s.size = z) := ⟨_, rfl⟩
  by_cases h3 : i + 3 ≤ s.size
  · have h3I : (i : Int) + 3 ≤ (s.size : Int) := by omega
    have HB := Lib.hid (hb.put h3)
    clear hb
    obtain ⟨kl, hkl⟩ := k3_key w (key3 s i)
    have HK := Lib.hid hkl
    clear hkl
    obtain ⟨rb, c, rfl, hc1, hc2, _⟩ := (H.front 2 rfl).at (by rw [nums_length]; have := HB.out.len; simp at this; omega)
    go_enter Try.func49, Try.ntmps49
    go_wp2_with fail
    refine (fkey_any H h3 hs).mono ?_
    rintro e w1 ⟨_, rfl, rfl, H1⟩
    clear H c0
    obtain ⟨x0, x1, x2, hk⟩ : ∃ x0 x1 x2 : Int, Hid (k3 (key3 s i) = .agg #[.int .u8 x0, .int .u8 x1, .int .u8 x2]) := ⟨_, _, _, Lib.hid rfl⟩
    rw [hk.out]
    have hupd := Lib.hid (gOf_put h3)
    have hlk : Hid (gOf s i (key3 s i) = (prev s (key3 s i) i : Int)) := Lib.hid rfl
    obtain ⟨pv, hpv⟩ : ∃ pv, Hid (prev s (key3 s i) i = pv) := ⟨_, rfl⟩
    rw [hpv.out] at HB hlk
    obtain ⟨G, hG⟩ : ∃ G, Hid (gOf s i = G) := ⟨_, rfl⟩
    have hG' := hG.out
    rw [hG'] at H1 hupd hlk
    clear hG'
    have c0 := H1.cells
    go_upto_region 2 with (refine wpList_store_agg rfl _ _ rfl rfl (H1.alloc _) rfl (by kernel_rfl) (by simp) (by simp; exact ⟨rfl, rfl, rfl⟩) rfl ?_; clear H1 c0; intro w5 H)
    generalize w1.heap.size = kb at *
    refine wp_region_calm (fun w1 => Own w0 w1 (blk kb (.cells #[.int .u8 x0, .int .u8 x1, .int .u8 x2] 88) :: blk g (.cells #[.string s, .map (some b), .slice (some ⟨rb, 0, none⟩) s.size c] 61) :: mpi Try.prog 88 3 k3 b i G :: slc 3 1 (.slice (some ⟨rb, 0, none⟩) s.size c) s.size (nums xs) :: ps)) 12 (by kernel_rfl) (by kernel_rfl) H.drew ?_
    simp only [List.take_succ_cons, List.take_zero, List.drop_succ_cons, List.drop_zero]
    repeat
      first
      | (refine calm_value (v := ?_) (by decide) rfl (fun σ w1 hS => ?_) ?_
         rotate_left
         · have c0 := hS.swap.cells; have c1 := hS.cells
           first | (go_simp; rfl) | rfl
         simp only [Act.put, List.setIfInBounds_toArray, List.set_cons_zero, List.set_cons_succ])
      | (refine calm_skip (by decide) rfl ?_
         simp only [Act.put, List.setIfInBounds_toArray, List.set_cons_zero, List.set_cons_succ])
    refine calm_lookup (b := b) (n := i) (g := G) (w0 := w0) (k := key3 s i) _ _ (by decide) rfl rfl rfl ?_ (fun σ w hS => ⟨_, (hS.front 2 rfl)⟩) k3_law Try.underlying59 Try.underlying3 intZero HK.out ?_
    · exact hk.out.symm
    repeat
      first
      | (refine calm_value (v := ?_) (by decide) rfl (fun σ w1 hS => ?_) ?_
         rotate_left
         · have c0 := hS.swap.cells; have c1 := hS.cells
           first | (go_simp; rfl) | rfl
         simp only [Act.put, List.setIfInBounds_toArray, List.set_cons_zero, List.set_cons_succ])
      | (refine calm_skip (by decide) rfl ?_
         simp only [Act.put, List.setIfInBounds_toArray, List.set_cons_zero, List.set_cons_succ])
    refine calm_nil ?_
    intro wd HD
    clear H
    rw [hlk.out]
    go_upto_region 3 with (refine wpList_store_slc rfl _ _ rfl (j := i) rfl (HD.front 3 rfl) (.int .i64 pv) rfl (by kernel_rfl) (by omega) rfl ?_; clear HD; intro w6 H)
    have hw1 : IntKind.i64.wrap ((i : Int) + 1) = (i : Int) + 1 := IntWalk.i64_in _ ⟨by omega, by omega⟩
    have hset : (nums xs).set i (.int .i64 (pv : Int)) = nums (xs.set i (pv : Int)) := by simp [nums, List.map_set]
    rw [hset] at H
    have H : Own w0 w6 (blk kb (.cells #[.int .u8 x0, .int .u8 x1, .int .u8 x2] 88) :: blk g (.cells #[.string s, .map (some b), .slice (some ⟨rb, 0, none⟩) s.size c] 61) :: mpi Try.prog 88 3 k3 b i G :: slc 3 1 (.slice (some ⟨rb, 0, none⟩) s.size c) s.size (nums (xs.set i (pv : Int))) :: ps) := (((((H.front 3 rfl).front 3 rfl).front 3 rfl)))
    refine wp_region_calm (fun w1 => Own w0 w1 (blk kb (.cells #[.int .u8 x0, .int .u8 x1, .int .u8 x2] 88) :: blk g (.cells #[.string s, .map (some b), .slice (some ⟨rb, 0, none⟩) s.size c] 61) :: mpi Try.prog 88 3 k3 b i G :: slc 3 1 (.slice (some ⟨rb, 0, none⟩) s.size c) s.size (nums (xs.set i (pv : Int))) :: ps)) 7 (by kernel_rfl) (by kernel_rfl) H.drew ?_
    simp only [List.take_succ_cons, List.take_zero, List.drop_succ_cons, List.drop_zero]
    repeat
      first
      | (refine calm_value (v := ?_) (by decide) rfl (fun σ w1 hS => ?_) ?_
         rotate_left
         · have c0 := hS.swap.cells; have c1 := hS.cells
           first | (go_simp; rfl) | rfl
         simp only [Act.put, List.setIfInBounds_toArray, List.set_cons_zero, List.set_cons_succ])
      | (refine calm_skip (by decide) rfl ?_
         simp only [Act.put, List.setIfInBounds_toArray, List.set_cons_zero, List.set_cons_succ])
    refine calm_nil ?_
    intro wd2 HD
    clear H
    refine wpList_update_mpi (K := 88) (E := 3) (enc := k3) rfl _ _ _ rfl (HD.front 2 rfl) k3_law Try.underlying59 Try.underlying3 (by omega) k3_inj rfl (a := key3 s i) hk.out.symm HK.out (c := (i : Int) + 1) rfl (by omega) ?_
    clear HD
    intro w7 H
    rw [← hupd.out] at H
    go_wp2
    go_end0
    exact ⟨_, rfl, fnd_shut (b := b) (v := .slice (some ⟨rb, 0, none⟩) s.size c) HB.out ((((H.front 2 rfl).front 2 rfl).drop))⟩
  · have h3I : ¬ (i : Int) + 3 ≤ (s.size : Int) := by omega
    have HB := Lib.hid (hb.skip h3)
    clear hb
    go_enter Try.func49, Try.ntmps49
    go_wp2
    go_end0
    refine ⟨_, rfl, fnd_shut (b := b) (v := v) HB.out ?_⟩
    rw [gOf_skip h3]
    exact (H.swap.mpi_mono (Nat.le_succ i)).swap
end Go.Proofs.Yteoecchggjmffaa
/- lz: the walk of find. -/
namespace Go.Proofs.Yteoecchggjmffaa
open Go.RowKit Go.Maps

set_option maxRecDepth 100000 in
theorem prev_step {s : ByteArray} {i p : Nat} (hk : key3 s (p - 1) = key3 s i) : prev s (key3 s (p - 1)) (p - 1) = prev s (key3 s i) (p - 1) := by rw [hk]

set_option maxRecDepth 100000 in
set_option maxHeartbeats 3200000 in
theorem lzfind_any {w0 w : World} {ps : List Piece} {g i : Nat} {s : ByteArray} (H : Own w0 w (Fnd g s i :: ps)) (hi : i < s.size) (hs : s.size ≤ 1000000) :
    Calls Try.prog 48 #[.pointer (some ⟨g, 0, none⟩), .int .i64 i] w (Ret fun r w' => r = .tuple #[.int .i64 (found s i).1, .int .i64 (found s i).2] ∧ Own w0 w' (Fnd g s i :: ps)) := by
  have H0 := H
  obtain ⟨b, v, xs, hb, H⟩ := fnd_open H
  have hw3 : IntKind.i64.wrap ((i : Int) + 3) = (i : Int) + 3 := IntWalk.i64_in _ ⟨by omega, by omega⟩
  by_cases h3 : i + 3 ≤ s.size
  · have h3I : ¬ (s.size : Int) < (i : Int) + 3 := by omega
    have HB := Lib.hid hb
    clear hb H0
    obtain ⟨kl, hkl⟩ := k3_key w (key3 s i)
    have HK := Lib.hid hkl
    clear hkl
    obtain ⟨rb, c, rfl, hc1, hc2, _⟩ := (H.front 2 rfl).at (by rw [nums_length]; have := HB.out.len; omega)
    obtain ⟨F, hF⟩ : ∃ F, Hid (found s i = F) := ⟨_, rfl⟩
    rw [hF.out]
    obtain ⟨k0, hk0⟩ : ∃ k0, Hid (k3 (key3 s i) = k0) := ⟨_, rfl⟩
    have hlk : Hid (gOf s i (key3 s i) = (prev s (key3 s i) i : Int)) := Lib.hid rfl
    obtain ⟨pv, hpv⟩ : ∃ pv, Hid (prev s (key3 s i) i = pv) := ⟨_, rfl⟩
    rw [hpv.out] at hlk
    obtain ⟨G, hG⟩ : ∃ G, Hid (gOf s i = G) := ⟨_, rfl⟩
    have hG' := hG.out
    rw [hG'] at H hlk
    clear hG'
    obtain ⟨X, hX⟩ : ∃ X, Hid (nums xs = X) := ⟨_, rfl⟩
    rw [hX.out] at H
    have c0 := H.cells
    go_enter Try.func48, Try.ntmps48
    go_upto_region 4 with (fail)
    clear c0
    refine wp_region_calm (fun w1 => Own w0 w1 (blk g (.cells #[.string s, .map (some b), .slice (some ⟨rb, 0, none⟩) s.size c] 61) :: mpi Try.prog 88 3 k3 b i G :: slc 3 1 (.slice (some ⟨rb, 0, none⟩) s.size c) s.size X :: ps)) 9 (by kernel_rfl) (by kernel_rfl) H.drew ?_
    simp only [List.take_succ_cons, List.take_zero, List.drop_succ_cons, List.drop_zero]
    repeat
      first
      | (refine calm_value (v := ?_) (by decide) rfl (fun σ w1 hS => ?_) ?_
         rotate_left
         · have c0 := hS.cells
           first | (go_simp; rfl) | rfl
         simp only [Act.put, List.setIfInBounds_toArray, List.set_cons_zero, List.set_cons_succ])
      | (refine calm_skip (by decide) rfl ?_
         simp only [Act.put, List.setIfInBounds_toArray, List.set_cons_zero, List.set_cons_succ])
    refine calm_call (v := k0) (by decide) rfl (fun w1 => (by go_simp; first | exact ⟨rfl, rfl⟩ | rfl)) (fun σ w1 hS => ?_) ?_
    · refine (fkey_any hS h3 hs).mono ?_
      rintro e w2 ⟨_, rfl, rfl, h2⟩
      exact ⟨by rw [hk0.out], h2⟩
    simp only [Act.put, List.setIfInBounds_toArray, List.set_cons_zero, List.set_cons_succ]
    refine calm_lookup (b := b) (n := i) (g := G) (w0 := w0) (k := key3 s i) _ _ (by decide) rfl rfl rfl ?_ (fun σ w hS => ⟨_, (hS.front 1 rfl)⟩) k3_law Try.underlying59 Try.underlying3 intZero HK.out ?_
    · exact hk0.out.symm
    rw [hlk.out]
    repeat
      first
      | (refine calm_value (v := ?_) (by decide) rfl (fun σ w1 hS => ?_) ?_
         rotate_left
         · have c0 := hS.cells
           first | (go_simp; rfl) | rfl
         simp only [Act.put, List.setIfInBounds_toArray, List.set_cons_zero, List.set_cons_succ])
      | (refine calm_skip (by decide) rfl ?_
         simp only [Act.put, List.setIfInBounds_toArray, List.set_cons_zero, List.set_cons_succ])
    refine calm_nil ?_
    intro wd HD
    clear H
    have hseen : Hid (seen s i pv = (0, 0)) := Lib.hid (by rw [← hpv.out, seen_skip (Nat.le_refl i), seen_start])
    have hpvi : pv ≤ i := by rw [← hpv.out]; exact prev_le ..
    have hpvk : Hid (0 < pv → key3 s (pv - 1) = key3 s i) := Lib.hid (fun h => by rw [← hpv.out] at h ⊢; exact (prev_key i h).1)
    obtain ⟨Z, hZ⟩ : ∃ Z, Hid (s.size = Z) := ⟨_, rfl⟩
    clear hpv hlk
    go_wp2_with fail
    go_loopw [6, 7, 8] (fun s6 s7 s8 wr => ∃ l d p : Nat, s6 = .int .i64 l ∧ s7 = .int .i64 d ∧ s8 = .int .i64 p ∧ p ≤ i ∧ Hid (seen s i p = (l, d)) ∧ Hid (0 < p → key3 s (p - 1) = key3 s i) ∧ Own w0 wr (blk g (.cells #[.string s, .map (some b), .slice (some ⟨rb, 0, none⟩) s.size c] 61) :: mpi Try.prog 88 3 k3 b i G :: slc 3 1 (.slice (some ⟨rb, 0, none⟩) s.size c) s.size X :: ps)) (fun _ _ s8 _ => (intOf s8).toNat)
    case atStart => exact ⟨0, 0, pv, by simp, by simp, by simp, hpvi, hseen, hpvk, HD⟩
    case round =>
      clear HD hpvi hpvk hseen
      obtain ⟨l, d, p, rfl, rfl, rfl, hpi, hsn, hpk, H⟩ := hrel
      by_cases hp0 : p = 0
      · subst hp0
        have hend : Hid (F = (l, d)) := Lib.hid (by rw [← hsn.out, ← hF.out]; exact (seen_end hpi (.inl rfl)).symm)
        clear hpk hsn
        go_wp2
        go_ret2
        refine ⟨_, rfl, by rw [hend.out]; rfl, fnd_shut (b := b) (v := .slice (some ⟨rb, 0, none⟩) s.size c) HB.out ?_⟩
        rw [hG.out, hX.out]
        exact H
      · obtain ⟨q, rfl⟩ : ∃ q, p = q + 1 := ⟨p - 1, by omega⟩
        clear hp0
        have hpc : ((q + 1 : Nat) : Int) = (q : Int) + 1 := by omega
        rw [hpc]
        have hk := Lib.hid (hpk.out (Nat.succ_pos q))
        have e1 : q + 1 - 1 = q := rfl
        have hk' := hk.out
        rw [e1] at hk'
        clear hk hpk
        by_cases hwin : i - q ≤ 4096
        · have hwI : (i : Int) - (q : Int) ≤ 4096 := by omega
          have hhit := seen_hit (s := s) (p := q + 1) (Nat.succ_pos q) hpi (by rw [e1]; exact hwin) (by rw [e1]; exact hk') h3
          rw [e1, hsn.out] at hhit
          have hcm := comm_le s q i
          obtain ⟨n, hn⟩ : ∃ n, Hid (comm s q i = n) := ⟨_, rfl⟩
          rw [hn.out] at hhit hcm
          have hnx := seen_skip (s := s) (at_ := i) (m := q) (by omega)
          have hpl := prev_le s (key3 s i) q
          have hpq : 0 < prev s (key3 s i) q → key3 s (prev s (key3 s i) q - 1) = key3 s i := fun h => (prev_key q h).1
          have hXq : X[q]? = some (.int .i64 (prev s (key3 s i) q : Nat)) := by
            rw [← hX.out]
            refine nums_get ?_
            rw [← hk']
            exact HB.out.get q (by omega) (by omega)
          rw [hhit] at hnx
          obtain ⟨p2, hp2⟩ : ∃ p2, Hid (prev s (key3 s i) q = p2) := ⟨_, rfl⟩
          rw [hp2.out] at hnx hpl hpq hXq
          have HX := Lib.hid hXq
          have HN := Lib.hid hnx
          have HP := Lib.hid hpq
          clear hXq hnx hpq hhit hsn hk' e1
          have c0 := H.cells
          have hqi : q < i := by omega
          by_cases hln : l < n
          · have HN' : Hid (seen s i p2 = (n, i - q)) := Lib.hid (by rw [HN.out, if_pos hln])
            have hlnI : (l : Int) < (n : Int) := by omega
            go_wp2_with fail
            refine (fsame_any H (show q ≤ i by omega) (by omega) hs).mono ?_
            rintro e w1 ⟨_, rfl, rfl, H1⟩
            rw [hn.out]
            clear H c0
            have c0 := H1.cells
            have c1 := (H1.front 2 rfl).rd.cell HX.out
            rw [Nat.zero_add] at c1
            go_wp2_with fail
            go_roundw
            case rel => exact ⟨n, i - q, p2, by go_num, by simp; omega, by go_num, by omega, HN', HP, H1⟩
            case measure => simp [intOf]; omega
          · have HN' : Hid (seen s i p2 = (l, d)) := Lib.hid (by rw [HN.out, if_neg hln])
            have hlnI : ¬ (l : Int) < (n : Int) := by omega
            go_wp2_with fail
            refine (fsame_any H (show q ≤ i by omega) (by omega) hs).mono ?_
            rintro e w1 ⟨_, rfl, rfl, H1⟩
            rw [hn.out]
            clear H c0
            have c0 := H1.cells
            have c1 := (H1.front 2 rfl).rd.cell HX.out
            rw [Nat.zero_add] at c1
            go_wp2_with fail
            go_roundw
            case rel => exact ⟨l, d, p2, by go_num, by go_num, by go_num, by omega, HN', HP, H1⟩
            case measure => simp [intOf]; omega
        · have hwI : ¬ (i : Int) - (q : Int) ≤ 4096 := by omega
          have hend : Hid (F = (l, d)) := Lib.hid (by rw [← hsn.out, ← hF.out]; exact (seen_end hpi (.inr (by omega))).symm)
          clear hsn hk' e1
          go_wp2
          go_ret2
          refine ⟨_, rfl, by rw [hend.out]; rfl, fnd_shut (b := b) (v := .slice (some ⟨rb, 0, none⟩) s.size c) HB.out ?_⟩
          rw [hG.out, hX.out]
          exact H
  · have h3I : (s.size : Int) < (i : Int) + 3 := by omega
    have hf := Lib.hid (found_none (s := s) (at_ := i) (by omega))
    have c0 := H.cells
    go_enter Try.func48, Try.ntmps48
    go_wp2
    go_ret2
    exact ⟨_, rfl, by rw [hf.out]; rfl, H0⟩
end Go.Proofs.Yteoecchggjmffaa
/- lz: the walk of Parse. -/
namespace Go.Proofs.Yteoecchggjmffaa
open Go.RowKit Go.Maps

set_option maxRecDepth 100000 in
theorem tokInfo : (Try.prog.info? 65).map (fun i => (i.zero, i.size, i.bytes)) = some (some (tval ⟨0, 0, 0⟩), 3, 24) := by kernel_rfl

set_option maxRecDepth 100000 in
set_option maxHeartbeats 3200000 in
theorem lzparse_any {w0 w : World} {ps : List Piece} {s : ByteArray} (H : Own w0 w ps) (hs : s.size ≤ 1000000) :
    Calls Try.prog 24 #[.string s] w (Ret fun v w' => Own w0 w' (slc 65 3 v (parse s).length (rows tcell (parse s)) :: ps)) := by
  have hmk : ∀ w : World, (Instr.makeSlice 26 (.int .i64 s.size) (.int .i64 s.size)).run Try.prog w = .ok (.slice (some ⟨w.heap.size, 0, none⟩) s.size s.size) (w.alloc (.cells (madeCells #[.int .i64 0] s.size) 3)) := run_make_row' _ _ _ 8 Try.underlying26 intInfo rfl .i64 .i64 s.size (by omega) (by omega)
  have hmm := fun w => run_makeMap (P := Try.prog) 59 w
  have hnew : Own w0 (((w.alloc (.map #[] 0)).alloc (.cells (madeCells #[.int .i64 0] s.size) 3)).alloc (.cells #[.string s, .map (some w.heap.size), .slice (some ⟨w.heap.size + 1, 0, none⟩) s.size s.size] 61)) (Fnd (w.heap.size + 1 + 1) s 0 :: ps) := by
    have h1 := (H.mpi_new (P := Try.prog) (K := 88) (E := 3) (enc := k3)).alloc2 (.cells (madeCells #[.int .i64 0] s.size) 3) (.cells #[.string s, .map (some w.heap.size), .slice (some ⟨w.heap.size + 1, 0, none⟩) s.size s.size] 61)
    have e : (w.alloc (.map #[] 0)).heap.size = w.heap.size + 1 := by simp
    rw [e] at h1
    have h2 := h1.swap.slc_mk (xs := nums (List.replicate s.size 0)) (n := s.size) (size := 1) (by simp [nums]) (Nat.le_refl _) (by simp [maxLen]; omega) (by simp [size_madeCells]) (by rw [toList_madeCells_one]; simp [nums])
    refine fnd_shut (b := w.heap.size) (v := .slice (some ⟨w.heap.size + 1, 0, none⟩) s.size s.size) (xs := List.replicate s.size 0) ⟨by simp, fun q h => by omega⟩ ?_
    rw [gOf_zero]
    exact (h2.swap.front 2 rfl).swap
  have HN := Lib.hid hnew
  clear hnew
  obtain ⟨W, hW⟩ : ∃ W, Hid (parseN s s.size 0 = W) := ⟨_, rfl⟩
  have hp : Hid (parse s = W) := Lib.hid hW.out
  rw [hp.out]
  go_enter Try.func24, Try.ntmps24
  go_upto_region 2 with (fail)
  have H1 := HN.out
  clear HN H
  generalize ((w.alloc (.map #[] 0)).alloc (.cells (madeCells #[.int .i64 0] s.size) 3)).alloc (.cells #[.string s, .map (some w.heap.size), .slice (some ⟨w.heap.size + 1, 0, none⟩) s.size s.size] 61) = wx at *
  generalize w.heap.size + 1 + 1 = g at *
  have H := (H1.nil 65 3).swap
  clear H1
  go_wp2_with fail
  go_loopw [4, 5] (fun s4 s5 wr => ∃ (i f : Nat) (l : List Tok), s5 = .int .i64 i ∧ i ≤ s.size ∧ s.size ≤ i + f ∧ Hid (l ++ parseN s f i = W) ∧ l.length ≤ i ∧ Own w0 wr (Fnd g s i :: slc 65 3 s4 l.length (rows tcell l) :: ps)) (fun _ s5 _ => s.size - (intOf s5).toNat)
  case atStart => exact ⟨0, s.size, [], by simp, by omega, by omega, hW, by simp, H⟩
  case round =>
    clear H
    obtain ⟨i, f, l, rfl, hi, hf, hl, hll, H⟩ := hrel
    by_cases hlt : i < s.size
    · have hltI : (i : Int) < (s.size : Int) := by omega
      obtain ⟨f, rfl⟩ : ∃ f', f = f' + 1 := ⟨f - 1, by omega⟩
      have hpn : parseN s (f + 1) i = tokAt s i :: parseN s f (i + stepAt s i) := by rw [parseN, if_pos hlt]
      have hsl := stepAt_le hlt
      have hsp := stepAt_pos s i
      have hst : stepAt s i = if 3 ≤ (found s i).1 then (found s i).1 else 1 := rfl
      have htk : tokAt s i = if 3 ≤ (found s i).1 then ⟨(found s i).1, (found s i).2, 0⟩ else ⟨0, 0, (byt s i).toNat⟩ := rfl
      obtain ⟨m, hm⟩ : ∃ m, Hid (stepAt s i = m) := ⟨_, rfl⟩
      obtain ⟨t, ht⟩ : ∃ t, Hid (tokAt s i = t) := ⟨_, rfl⟩
      rw [hm.out] at hst hpn hsl hsp
      rw [ht.out] at htk hpn
      have hl2 : Hid ((l ++ [t]) ++ parseN s f (i + m) = W) := Lib.hid (by rw [← hl.out, hpn]; simp)
      clear hl hpn
      obtain ⟨n, d, hF⟩ : ∃ n d, Hid (found s i = (n, d)) := ⟨_, _, rfl⟩
      rw [hF.out] at hst htk
      go_upto_region 5 with (fail)
      go_wp2_with fail
      refine (lzfind_any H hlt hs).mono ?_
      rintro e w1 ⟨_, rfl, rfl, H1⟩
      rw [hF.out]
      clear H
      have e0 := byt_is hlt
      have hx8 := (byt s i).toNat_lt
      have hwx : wrap64 (((byt s i).toNat : Nat) : Int) = (((byt s i).toNat : Nat) : Int) := IntWalk.wrap64_in _ ⟨by omega, by omega⟩
      obtain ⟨cv, hcv⟩ : ∃ cv, Hid (w1.heap.size = cv) := ⟨_, rfl⟩
      by_cases h3 : 3 ≤ n
      case pos =>
        have h3I : ¬ (n : Int) < 3 := by omega
        rw [if_pos h3] at hst htk
        subst hst
        have HT := Lib.hid htk
        clear htk hwx e0 hx8
        go_upto_region 10 with (refine wpList_store_agg rfl _ _ rfl rfl (H1.alloc _) rfl (by kernel_rfl) (by simp) (by simp; exact ⟨rfl, rfl, rfl⟩) rfl ?_; clear H1; intro w5 H; rw [hcv.out] at H ⊢)
        have H : Own w0 w5 (blk cv (.cells #[.int .i64 t.len, .int .i64 t.dist, .int .i64 t.lit] 65) :: Fnd g s i :: slc 65 3 u4 l.length (rows tcell l) :: ps) := by rw [HT.out]; exact H
        clear h3 h3I hF
        go_wp2_with fail
        go_loopw [5, 37] (fun s5 s37 wr => ∃ k : Nat, s5 = .int .i64 ((i + k : Nat) : Int) ∧ s37 = .int .i64 k ∧ k ≤ m ∧ Own w0 wr (blk cv (.cells #[.int .i64 t.len, .int .i64 t.dist, .int .i64 t.lit] 65) :: Fnd g s (i + k) :: slc 65 3 u4 l.length (rows tcell l) :: ps)) (fun _ s37 _ => m - (intOf s37).toNat)
        case atStart => exact ⟨0, by simp, by simp, by omega, H⟩
        case round =>
          clear H
          obtain ⟨k, rfl, rfl, hk, H⟩ := hrel
          by_cases hkm : k < m
          · have hkI : (k : Int) < (m : Int) := by omega
            obtain ⟨j, hj⟩ : ∃ j, Hid (i + k = j) := ⟨_, rfl⟩
            have hjs : j < s.size := by have := hj.out; omega
            rw [hj.out] at H ⊢
            go_wp2_with fail
            refine (fput_any H.swap hjs hs).mono ?_
            rintro e w6 ⟨_, rfl, H6⟩
            clear H
            go_wp2_with fail
            go_roundw
            case rel => exact ⟨k + 1, by have := hj.out; go_num; try omega, by go_num, by omega, (by rw [← Nat.add_assoc, hj.out]; exact H6.swap)⟩
            case measure => simp [intOf]; omega
          · have hkI : ¬ (k : Int) < (m : Int) := by omega
            have hke : m = k := by omega
            rw [hke] at hl2 hsl hsp
            have c0 := H.cells
            obtain ⟨a', c', rfl, h1', h2'⟩ := (H.front 2 rfl).rd.shape
            go_wp2_with (at_builtin; refine wpList_append_one rfl _ _ rfl Try.underlying37 tokInfo rfl (by decide) rfl (H.front 2 rfl) (news := tcell t) rfl rfl rfl (tcell_one t) (by omega) (by omega) ?_; clear H c0; intro v' w7 H)
            go_roundw
            case rel =>
              refine ⟨i + k, f, l ++ [t], by go_num, by omega, by omega, hl2, by simp; omega, ?_⟩
              rw [rows_append, rows_one, List.length_append]
              exact ((((H.front 2 rfl).front 2 rfl).drop))
            case measure => simp [intOf]; omega
      case neg =>
        have h3I : (n : Int) < 3 := by omega
        rw [if_neg h3] at hst htk
        subst hst
        have HT := Lib.hid htk
        clear htk
        go_upto_region 10 with (first
          | (refine wpList_store_agg rfl _ _ rfl rfl (H1.alloc _) rfl (by kernel_rfl) (by simp) (by simp; exact ⟨rfl, rfl, rfl⟩) rfl ?_; clear H1; intro w4 H4; rw [hcv.out] at H4 ⊢)
          | (refine wpList_store_agg (vs := tcell ⟨0, 0, (byt s i).toNat⟩) rfl _ _ rfl rfl H4 (by first | rfl | (go_simp; done)) (by kernel_rfl) (by simp [tcell]) (tcell_one _) rfl ?_; clear H4; intro w5 H))
        have H : Own w0 w5 (blk cv (.cells #[.int .i64 t.len, .int .i64 t.dist, .int .i64 t.lit] 65) :: Fnd g s i :: slc 65 3 u4 l.length (rows tcell l) :: ps) := by rw [HT.out]; exact H
        clear hwx e0 hx8
        clear h3 h3I hF
        go_wp2_with fail
        go_loopw [5, 37] (fun s5 s37 wr => ∃ k : Nat, s5 = .int .i64 ((i + k : Nat) : Int) ∧ s37 = .int .i64 k ∧ k ≤ 1 ∧ Own w0 wr (blk cv (.cells #[.int .i64 t.len, .int .i64 t.dist, .int .i64 t.lit] 65) :: Fnd g s (i + k) :: slc 65 3 u4 l.length (rows tcell l) :: ps)) (fun _ s37 _ => 1 - (intOf s37).toNat)
        case atStart => exact ⟨0, by simp, by simp, by omega, H⟩
        case round =>
          clear H
          obtain ⟨k, rfl, rfl, hk, H⟩ := hrel
          by_cases hkm : k < 1
          · have hkI : (k : Int) < 1 := by omega
            obtain ⟨j, hj⟩ : ∃ j, Hid (i + k = j) := ⟨_, rfl⟩
            have hjs : j < s.size := by have := hj.out; omega
            rw [hj.out] at H ⊢
            go_wp2_with fail
            refine (fput_any H.swap hjs hs).mono ?_
            rintro e w6 ⟨_, rfl, H6⟩
            clear H
            go_wp2_with fail
            go_roundw
            case rel => exact ⟨k + 1, by have := hj.out; go_num; try omega, by go_num, by omega, (by rw [← Nat.add_assoc, hj.out]; exact H6.swap)⟩
            case measure => simp [intOf]; omega
          · have hkI : ¬ (k : Int) < 1 := by omega
            obtain rfl : k = 1 := by omega
            have c0 := H.cells
            obtain ⟨a', c', rfl, h1', h2'⟩ := (H.front 2 rfl).rd.shape
            go_wp2_with (at_builtin; refine wpList_append_one rfl _ _ rfl Try.underlying37 tokInfo rfl (by decide) rfl (H.front 2 rfl) (news := tcell t) rfl rfl rfl (tcell_one t) (by omega) (by omega) ?_; clear H c0; intro v' w7 H)
            go_roundw
            case rel =>
              refine ⟨i + 1, f, l ++ [t], by go_num, by omega, by omega, hl2, by simp; omega, ?_⟩
              rw [rows_append, rows_one, List.length_append]
              exact ((((H.front 2 rfl).front 2 rfl).drop))
            case measure => simp [intOf]; omega
    · have hltI : ¬ (i : Int) < (s.size : Int) := by omega
      have hfin : Hid (l = W) := Lib.hid (by rw [← hl.out, parseN_end (by omega)]; simp)
      clear hl
      go_wp2
      go_ret
      refine ⟨_, rfl, ?_⟩
      rw [← hfin.out]
      exact H.drop
end Go.Proofs.Yteoecchggjmffaa
/- lz: what is parsed is expanded as it was; what a token tells; a text of one byte. No program in sight. -/
namespace Go.Proofs.Yteoecchggjmffaa
open Go.RowKit

/-- The first bytes. -/
def bnum (s : ByteArray) (i : Nat) : List Int := (List.range i).map fun j => ((byt s j).toNat : Int)
theorem bnum_length (s : ByteArray) (i : Nat) : (bnum s i).length = i := by simp [bnum]
theorem bnum_succ (s : ByteArray) (i : Nat) : bnum s (i + 1) = bnum s i ++ [((byt s i).toNat : Int)] := by simp [bnum, List.range_succ]
theorem bnum_get {s : ByteArray} {i j : Nat} (h : j < i) : (bnum s i)[j]? = some ((byt s j).toNat : Int) := by simp [bnum, h]
theorem bnum_all (s : ByteArray) : strOfNums (bnum s s.size) = s := by
  have h : (strOfNums (bnum s s.size)).data = s.data := by
    apply Array.toList_inj.1
    rw [strOfNums_data]
    apply List.ext_getElem?
    intro i
    by_cases hi : i < s.size
    · have hi' : i < s.data.size := hi
      rw [List.getElem?_map, bnum_get hi]
      simp [byt, Array.getD]
      rw [dif_pos hi, Array.getElem?_eq_getElem hi']
    · have hi' : ¬ i < s.data.size := hi
      rw [List.getElem?_eq_none (by simp [bnum_length]; omega), List.getElem?_eq_none (by simpa using hi')]
  cases s with
  | mk d =>
    have h2 : strOfNums (bnum ⟨d⟩ (ByteArray.size ⟨d⟩)) = ⟨(strOfNums (bnum ⟨d⟩ (ByteArray.size ⟨d⟩))).data⟩ := rfl
    rw [h2, h]
theorem copyN_bnum {s : ByteArray} {d i : Nat} (hd : 1 ≤ d) (hi : d ≤ i) : ∀ k, k ≤ comm s (i - d) i → copyN d (bnum s i) k = bnum s (i + k) := by
  intro k
  induction k with
  | zero => intro _; rfl
  | succ k ih =>
    intro hk
    have h1 := (comm_get (s := s) (a := i - d) (b := i) (j := k) (by omega)).2
    rw [copyN, ih (by omega), bnum_length, ← Nat.add_assoc, bnum_succ, List.getD_eq_getElem?_getD, bnum_get (by omega), show i + k - d = i - d + k by omega, h1]
    rfl
theorem tokAt_may {s : ByteArray} {i : Nat} : may (tokAt s i) i = true := by
  unfold tokAt
  split
  · next h =>
    have hc := found_comm h
    unfold may
    rw [if_neg (by simp only; omega)]
    simp only [decide_eq_true_eq]
    refine ⟨trivial, ?_⟩
    omega
  · unfold may
    rw [if_pos rfl]
    have := (byt s i).toNat_lt
    simp only [decide_eq_true_eq]
    refine ⟨trivial, ?_⟩
    omega
theorem tokAt_dist {s : ByteArray} {i : Nat} : (tokAt s i).dist ≤ 4096 := by
  unfold tokAt
  split
  · next h => have hc := found_comm h; simp only; omega
  · simp
theorem tokAt_step {s : ByteArray} {i : Nat} : max (tokAt s i).len 1 = stepAt s i := by
  unfold tokAt stepAt
  split
  · simp only; omega
  · rfl
theorem tokAt_len {s : ByteArray} {i : Nat} : (tokAt s i).len = if 3 ≤ (found s i).1 then (stepAt s i : Int) else 0 := by
  unfold tokAt stepAt
  split <;> rfl
theorem exp_tok {s : ByteArray} {i : Nat} {most : Int} (rest : List Tok) (hm0 : (i : Int) ≤ most) (hm : most ≤ 1000000) :
    exp most (tokAt s i :: rest) (bnum s i) = if most < i + stepAt s i then .err 12 else exp most rest (bnum s (i + stepAt s i)) := by
  have hw : IntKind.i64.wrap (most - (i : Int)) = most - i := IntWalk.i64_in _ ⟨by omega, by omega⟩
  rw [exp, bnum_length, if_neg (by simp [tokAt_may]), tokAt_step, hw]
  by_cases hlim : most < i + stepAt s i
  · rw [if_pos (by omega), if_pos hlim]
  · rw [if_neg (by omega), if_neg hlim]
    by_cases h : 3 ≤ (found s i).1
    · have hc := found_comm h
      have hl : (tokAt s i).len = (found s i).1 := by unfold tokAt; rw [if_pos h]
      have hd : (tokAt s i).dist = (found s i).2 := by unfold tokAt; rw [if_pos h]
      have hst : stepAt s i = (found s i).1 := by unfold stepAt; rw [if_pos h]
      rw [if_neg (by rw [hl]; omega), hl, hd, hst, Int.toNat_natCast, Int.toNat_natCast, copyN_bnum hc.1 hc.2.1 _ (by omega)]
    · have hl : tokAt s i = ⟨0, 0, (byt s i).toNat⟩ := by unfold tokAt; rw [if_neg h]
      have hst : stepAt s i = 1 := by unfold stepAt; rw [if_neg h]
      rw [hl, hst, if_pos rfl, bnum_succ]
theorem back_ok {s : ByteArray} {most : Int} (hs : (s.size : Int) ≤ most) (hm : most ≤ 1000000) : ∀ f i, i ≤ s.size → s.size ≤ i + f → exp most (parseN s f i) (bnum s i) = .ok (bnum s s.size) := by
  intro f
  induction f with
  | zero =>
    intro i h1 h2
    obtain rfl : i = s.size := by omega
    rw [parseN, exp]
  | succ f ih =>
    intro i h1 h2
    rw [parseN]
    split
    · next h =>
      have h3 := stepAt_le h
      have h4 := stepAt_pos s i
      rw [exp_tok _ (by omega) hm, if_neg (by omega), ih _ h3 (by omega)]
    · obtain rfl : i = s.size := by omega
      rw [exp]
theorem back_err {s : ByteArray} {most : Int} (hs : most < s.size) (hm : most ≤ 1000000) : ∀ f i : Nat, (i : Int) ≤ most → s.size ≤ i + f → exp most (parseN s f i) (bnum s i) = .err 12 := by
  intro f
  induction f with
  | zero => intro i h1 h2; omega
  | succ f ih =>
    intro i h1 h2
    rw [parseN, if_pos (by omega), exp_tok _ h1 hm]
    split
    · rfl
    · have h4 := stepAt_pos s i
      exact ih _ (by omega) (by omega)
theorem exp_parse {s : ByteArray} (h : s.size ≤ 1000000) : exp s.size (parse s) [] = .ok (bnum s s.size) := back_ok (Int.le_refl _) (by omega) s.size 0 (by omega) (by omega)
theorem exp_parse_less {s : ByteArray} {most : Int} (h : s.size ≤ 1000000) (h0 : 0 ≤ most) (h1 : most < s.size) : exp most (parse s) [] = .err 12 := back_err h1 (by omega) s.size 0 (by simpa using h0) (by omega)

/-! ### no byte stands by itself where three stood -/
theorem best_max (s : ByteArray) (i : Nat) : ∀ D d, 1 ≤ d → d ≤ D → comm s (i - d) i ≤ (best s i D).1 := by
  intro D
  induction D with
  | zero => intro d h1 h2; omega
  | succ D ih =>
    intro d h1 h2
    rw [best]
    by_cases hd : d = D + 1
    · subst hd
      split
      · exact Nat.le_refl _
      · omega
    · have := ih d h1 (by omega)
      split
      · simp only; omega
      · exact this
theorem lit_none {s : ByteArray} {i d : Nat} (h : ¬ 3 ≤ (found s i).1) (h1 : 1 ≤ d) (h2 : d ≤ i) (h3 : d ≤ 4096) (h4 : i + 3 ≤ s.size) : key3 s (i - d) ≠ key3 s i := by
  intro hk
  have hc := comm3 hk h4
  have hb := best_max s i (min i 4096) d h1 (by omega)
  apply h
  unfold found trim
  rw [if_pos (by omega)]
  omega

/-! ### a text of one byte -/
theorem comm_run {s : ByteArray} {c : UInt8} (hc : ∀ i, i < s.size → byt s i = c) {a b : Nat} (ha : a ≤ b) (hb : b ≤ s.size) : comm s a b = min 258 (s.size - b) := by
  refine comm_is (by omega) (fun j hj => ⟨by omega, by rw [hc _ (by omega), hc _ (by omega)]⟩) ?_
  by_cases h : s.size - b < 258
  · right
    intro hh
    omega
  · left; omega
theorem best_run {s : ByteArray} {c : UInt8} (hc : ∀ i, i < s.size → byt s i = c) {i : Nat} (hi : i ≤ s.size) : ∀ d, d + 1 ≤ i → (best s i (d + 1)).1 = min 258 (s.size - i) := by
  intro d
  induction d with
  | zero =>
    intro h
    rw [best, comm_run hc (by omega) hi]
    split
    · rfl
    · next h2 => simp only [best] at h2 ⊢; omega
  | succ d ih =>
    intro h
    rw [best, comm_run hc (by omega) hi, ih (by omega), if_neg (by omega), ih (by omega)]
theorem found_run {s : ByteArray} {c : UInt8} (hc : ∀ i, i < s.size → byt s i = c) {i : Nat} (hi : i ≤ s.size) (h1 : 1 ≤ i) : (found s i).1 = if 3 ≤ s.size - i then min 258 (s.size - i) else 0 := by
  obtain ⟨d, hd⟩ : ∃ d, min i 4096 = d + 1 := ⟨min i 4096 - 1, by omega⟩
  have hb := best_run hc hi d (by omega)
  unfold found
  rw [hd]
  unfold trim
  by_cases h : 3 ≤ s.size - i
  · rw [if_pos (by omega), if_pos h]; exact hb
  · rw [if_neg (by omega), if_neg h]
/-- How many tokens a rest has. -/
def runs (r : Nat) : Nat := r / 258 + if 2 < r % 258 then 1 else r % 258
theorem runs_far {r : Nat} (h : 258 ≤ r) : runs r = runs (r - 258) + 1 := by
  unfold runs
  have e1 : r / 258 = (r - 258) / 258 + 1 := by omega
  have e2 : r % 258 = (r - 258) % 258 := by omega
  rw [e1, e2]
  omega
theorem runs_near {r : Nat} (h : 3 ≤ r) (h2 : r < 258) : runs r = 1 := by
  unfold runs
  rw [Nat.div_eq_of_lt h2, Nat.mod_eq_of_lt h2, if_pos (by omega)]
theorem runs_few {r : Nat} (h : r < 3) : runs r = r := by
  unfold runs
  rw [Nat.div_eq_of_lt (by omega), Nat.mod_eq_of_lt (by omega), if_neg (by omega)]
  omega
theorem parseN_run {s : ByteArray} {c : UInt8} (hc : ∀ i, i < s.size → byt s i = c) : ∀ f i, 1 ≤ i → i ≤ s.size → s.size ≤ i + f → (parseN s f i).length = runs (s.size - i) := by
  intro f
  induction f with
  | zero =>
    intro i h0 h1 h2
    obtain rfl : i = s.size := by omega
    rw [Nat.sub_self]
    rfl
  | succ f ih =>
    intro i h0 h1 h2
    rw [parseN]
    split
    · next h =>
      have hf := found_run hc h1 h0
      have hle := stepAt_le h
      have hst : stepAt s i = if 3 ≤ (found s i).1 then (found s i).1 else 1 := rfl
      rw [List.length_cons, ih _ (by omega) hle (by have := stepAt_pos s i; omega)]
      rw [hf] at hst
      by_cases h3 : 3 ≤ s.size - i
      · rw [if_pos h3, if_pos (by omega)] at hst
        by_cases h258 : 258 ≤ s.size - i
        · rw [runs_far h258, hst, show s.size - (i + min 258 (s.size - i)) = s.size - i - 258 by omega]
        · rw [runs_near h3 (by omega), hst, show s.size - (i + min 258 (s.size - i)) = 0 by omega]
          rfl
      · rw [if_neg h3, if_neg (by omega)] at hst
        rw [hst, runs_few (by omega), runs_few (by omega)]
        omega
    · obtain rfl : i = s.size := by omega
      rw [Nat.sub_self]
      rfl
theorem found_zero (s : ByteArray) : found s 0 = (0, 0) := rfl
theorem parse_run {s : ByteArray} {c : UInt8} (hc : ∀ i, i < s.size → byt s i = c) (h : 1 ≤ s.size) : (parse s).length = 1 + runs (s.size - 1) := by
  unfold parse
  obtain ⟨f, hf⟩ : ∃ f, s.size = f + 1 := ⟨s.size - 1, by omega⟩
  have e : parseN s s.size 0 = tokAt s 0 :: parseN s f (0 + stepAt s 0) := by
    conv => lhs; rw [hf]
    rw [parseN, if_pos (by omega)]
  have hst : stepAt s 0 = 1 := by unfold stepAt; rw [found_zero]; rfl
  rw [e, hst, List.length_cons, parseN_run hc f (0 + 1) (by omega) (by omega) (by omega), Nat.zero_add]
  omega
theorem parse_run4 {s : ByteArray} {c : UInt8} (hc : ∀ i, i < s.size → byt s i = c) (h : s.size < 4) : (parse s).length = s.size := by
  by_cases h0 : s.size = 0
  · unfold parse; rw [h0]; rfl
  · rw [parse_run hc (by omega), runs_few (by omega)]; omega
end Go.Proofs.Yteoecchggjmffaa
/- Bits: a new writer. -/
namespace Go.Proofs.Yteoecchggjmffaa
open Go.RowKit

theorem alloc_heap_size' (w : World) (o : Obj) : (w.alloc o).heap.size = w.heap.size + 1 := Array.size_push ..
/-- A new writer. -/
theorem Own.newWtr {w0 w : World} {ps : List Piece} (H : Own w0 w ps) : Own w0 (w.alloc (.cells #[.slice none 0 0, .int .i64 0] 34)) (Wtr w.heap.size [] :: ps) := by
  have h := (H.alloc (.cells #[.slice none 0 0, .int .i64 0] 34)).nil 5 1
  exact Own.unwtr (n := 0) h.swap rfl rfl rfl
end Go.Proofs.Yteoecchggjmffaa
/- Bits: Writer.Bytes. -/
namespace Go.Proofs.Yteoecchggjmffaa
open Go.RowKit

theorem bytes_any {w0 w : World} {ps : List Piece} {g : Nat} {bs : List Bool} (H : Own w0 w (Wtr g bs :: ps)) :
    Calls Try.prog 26 #[.pointer (some ⟨g, 0, none⟩)] w fun e w' => e = .returned (.string (textOf bs)) ∧ w' = w := by
  obtain ⟨a, cp, hc1, hc2, H⟩ := H.wtr
  have c0 := H.cells
  have hs := run_string_sep (P := Try.prog) 32 9 Try.underlying32 Try.underlying5 Try.underlying9 (H.front 1 rfl).rd
  rw [show strOfNums (bytesOf bs) = textOf bs from rfl] at hs
  obtain ⟨n, hn⟩ : ∃ n, n = nbytes bs.length := ⟨_, rfl⟩
  simp only [← hn] at hs c0
  clear hn
  go_enter Try.func26, Try.ntmps26
  go_wp2
  go_ret
  exact ⟨rfl, rfl⟩
end Go.Proofs.Yteoecchggjmffaa
