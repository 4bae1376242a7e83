/-
  Texts of this claim, one behind the other: stream; An array of ints by value, read at an index; stream; stream; stream; stream; stream; stream; inflate; flate; flate; lz; inflate; flate; inflate; stream; stream; bits.New; stream; inflate; flate; Bits; Bits; flate; flate; flate; flate; The stable sort of slices of ints; The stable sort of slices of ints; The stable sort of slices of ints; The stable sort of slices of ints; The stable sort of slices of ints; The stable sort of slices of ints; The stable sort of slices of ints; Stable sorts, plainly; The stable sort of slices of ints; The stable sort of slices of coins; The stable sort of slices of coins; The stable sort of slices of coins; The stable sort of slices of coins; The stable sort of slices of coins; The stable sort of slices of coins; The stable sort of slices of coins; huff; huff; huff; huff; huff; huff; huff; flate; A map of the call's own whose elements are ints (0 where there is none); lz; lz; A look-up in a map of ints, in a region that draws its order; lz; lz; lz; Bits; Bits; flate; flate; Bits; Bits; flate; flate; inflate; inflate; stream.
-/
import Derived.Test.YtljejkdkjnbmhaaSn2
import Derived.OwnWalk
import Derived.Laws.BytesArg
import Derived.KernelRfl
import Derived.Laws.ResultCell
import Derived.Deep.OwnRows
import Derived.RegionTactic
import Derived.Carry
import Derived.Deep.DeepCutAuto
import Derived.Deep.CutBlock
import Derived.Deep.LoopGhost
import Derived.WalkLawsBesides
import Derived.WalkSpells
import Derived.BigQuiet
import Derived.Deep.QuietTactic
import Derived.Test.YtljejkdkjnbmhaaRows
import Derived.Lib.BufferMore
import Derived.Maps.Own
import Derived.Maps.OwnOps
import Derived.Maps.Views
import Derived.ProofKit
import Derived.DeepKeys4
set_option linter.unusedVariables false
/- stream: the walk of lengths. -/
namespace Go.Proofs.Ytljejkdkjnbmhaa
open Go.RowKit

/-- A part's state, as its cells say. -/
def isB : Value → Bool
  | .bool b => b
  | _ => false
def stOf (sh er : Value) : Int := if isB sh then -1 else intOf er
theorem stOf_se (e : Int) : stOf (.bool (shF e)) (.int .i64 (erF e)) = e := by
  unfold stOf isB shF erF
  by_cases h : e = -1
  · simp [h]
  · simp [h, intOf]
theorem Own.prt_e {w0 w : World} {ps : List Piece} {g rg n : Nat} {s : ByteArray} {e : Int} (H : Own w0 w (Prt g rg s n e :: ps)) : stOf ((w.cell? ⟨g, 1, none⟩).getD undef) ((w.cell? ⟨g, 2, none⟩).getD undef) = e := by
  have c := H.prt.cells
  rw [c, c]
  exact stOf_se e
/-- What a round leaves is less. -/
def lmeasS (N : Nat) (u sh er : Value) : Nat := if stOf sh er = 0 then N + 1 - sliceLen u else 0
theorem lmeasS_own {w0 w : World} {ps : List Piece} {g rg n N M c : Nat} {a : Option Addr} {s : ByteArray} {e : Int} (H : Own w0 w (Prt g rg s n e :: ps)) : lmeasS N (.slice a M c) ((w.cell? ⟨g, 1, none⟩).getD undef) ((w.cell? ⟨g, 2, none⟩).getD undef) = if e = 0 then N + 1 - M else 0 := by
  unfold lmeasS
  rw [H.prt_e]
  rfl
theorem lstS_any {bs : List Bool} {G : Got (List Int)} {T : List Int} {N : Nat} {l l' : List Int} {n n' : Nat} {e : Int} (h : LStS bs G T N l n e) (he : e ≠ 0) : LStS bs G T N l' n' e := ⟨fun h0 => absurd h0 he, h.2⟩
theorem lstS_againM {s : ByteArray} {G : Got (List Int)} {T l : List Int} {N n1 j b V : Nat} {x : Int} (hj : j ≤ 16) (hn : n1 ≤ 8 * s.size) (hV : tkV s n1 j = V)
    (hG : G = (takeG (textBits s) j n1).bind fun v n2 => if N < l.length + (b + v.toNat) then .bad 2 else lengthsG (textBits s) T N (l ++ List.replicate (b + v.toNat) x) n2) :
    LStS (textBits s) G T N (agM N l (b + V) x (ptE s n1 j 0)) (tkN s n1 j) (agE N l (b + V) (ptE s n1 j 0)) := by
  have h := lstS_again hj hn hV hG
  by_cases he : ptE s n1 j 0 = 0
  · rw [he] at h ⊢
    rw [agM_zero]
    exact h
  · rw [agM_ne he]
    exact lstS_any h (by rw [agE_ne he]; exact he)
theorem agM_less {N k : Nat} {l : List Int} {x e : Int} (hk : 1 ≤ k) (hl : l.length < N) : (if agE N l k e = 0 then N + 1 - (agM N l k x e).length else 0) < N + 1 - l.length := by
  by_cases he : e = 0
  · subst he
    rw [agM_zero]
    exact agL_less hk hl
  · rw [agE_ne he, if_neg he]
    omega
/-- What lengths leaves. -/
def LensPost (w0 : World) (ps : List Piece) (g rg t : Nat) (s : ByteArray) (T : List Int) (N : Nat) (G : Got (List Int)) (r : Value) (w' : World) : Prop :=
  ∃ l n' e', n' ≤ 8 * s.size ∧ l.length ≤ N ∧ (e' = 0 → l.length = N) ∧ GotS G l n' e' ∧ Own w0 w' (slc 3 1 r l.length (nums l) :: Prt g rg s n' e' :: Tbl t T :: ps)

set_option maxRecDepth 100000 in
set_option maxHeartbeats 3200000 in
theorem ptlengths_any {w0 w : World} {ps : List Piece} {g rg t n : Nat} {s : ByteArray} {T : List Int} (N : Nat) (hT : TabOk T) (hN : N ≤ 1000) (hs : s.size ≤ 1000000) (hn : n ≤ 8 * s.size) (H : Own w0 w (Prt g rg s n 0 :: Tbl t T :: ps)) :
    Calls Try.prog 49 #[.pointer (some ⟨g, 0, none⟩), .pointer (some ⟨t, 0, none⟩), .int .i64 N] w (Ret (LensPost w0 ps g rg t s T N (lengthsG (textBits s) T N [] n))) := by
  obtain ⟨G, hG⟩ : ∃ G, Hid (lengthsG (textBits s) T N [] n = G) := ⟨_, rfl⟩
  have hst : Hid (LStS (textBits s) G T N [] n 0) := Lib.hid (by rw [← hG.out]; exact lstS_start)
  rw [hG.out]
  replace H : Own w0 w (slc 3 1 (.slice none 0 0) 0 (nums []) :: Prt g rg s n 0 :: Tbl t T :: ps) := H.nil 3 1
  go_enter Try.func49, Try.ntmps49
  go_wp2_with fail
  go_loopw [7, 8] (fun v7 _ wx => ∃ (l : List Int) (n1 : Nat) (e : Int), l.length ≤ N ∧ n1 ≤ 8 * s.size ∧ Hid (LStS (textBits s) G T N l n1 e) ∧ Own w0 wx (slc 3 1 v7 l.length (nums l) :: Prt g rg s n1 e :: Tbl t T :: ps)) (fun v7 _ wx => lmeasS N v7 ((wx.cell? ⟨g, 1, none⟩).getD undef) ((wx.cell? ⟨g, 2, none⟩).getD undef))
  case atStart => exact ⟨[], n, 0, by simp, hn, hst, H⟩
  case round =>
    clear H hst hG
    obtain ⟨l, n1, e, hl, hn1, hst, H⟩ := hrel
    obtain ⟨a, c, rfl, h1, h2⟩ := H.rd.shape
    have hm0 := Lib.hid (lmeasS_own (N := N) (M := l.length) (c := c) (a := a) (H.front 1 rfl))
    obtain ⟨M, hM⟩ : ∃ M, Hid (l.length = M) := ⟨_, rfl⟩
    rw [hM.out] at H hl h1 hm0 ⊢
    have HK := Lib.hid (ptok_any (H.front 1 rfl))
    by_cases hx : e ≠ 0 ∨ N ≤ M
    · have hend := Lib.hid (lstS_end hst.out (hx.imp id fun h => by rw [hM.out]; exact h))
      have HR : Own w0 wr (slc 3 1 (.slice a M c) l.length (nums l) :: Prt g rg s n1 e :: Tbl t T :: ps) := by rw [hM.out]; exact H
      by_cases hlt : M < N
      · have he : e ≠ 0 := by omega
        rw [decide_eq_false he] at HK
        have hlt2 : (M : Int) < N := by omega
        have hfin : Hid (LensPost w0 ps g rg t s T N G (.slice a M c) wr) := Lib.hid ⟨l, n1, e, hn1, by rw [hM.out]; omega, fun h => absurd h he, hend.out, HR⟩
        clear hx hst hm0 he hend HR
        go_wp2_with fail
        refine HK.out.mono ?_
        rintro e1 w1 ⟨rfl, rfl⟩
        go_wp2
        go_ret
        exact ⟨_, rfl, hfin.out⟩
      · have hlt2 : ¬ (M : Int) < N := by omega
        have hfin : Hid (LensPost w0 ps g rg t s T N G (.slice a M c) wr) := Lib.hid ⟨l, n1, e, hn1, by rw [hM.out]; omega, fun h => by rw [hM.out]; omega, hend.out, HR⟩
        clear hx hst hm0 hend HR HK
        go_wp2
        go_ret
        exact ⟨_, rfl, hfin.out⟩
    · obtain ⟨he, hlt⟩ : e = 0 ∧ M < N := by omega
      subst he
      clear hx
      rw [decide_eq_true rfl] at HK
      replace hm0 := Lib.hid (hm0.out.trans (if_pos rfl))
      have hlt2 : (M : Int) < N := by omega
      have hlN : Hid (l.length < N) := Lib.hid (by rw [hM.out]; exact hlt)
      have HS := Lib.hid (ptsym_any (g := g) (t := t) hT hs hn1 ((H.front 2 rfl).front 2 rfl))
      go_wp2_with fail
      refine HK.out.mono ?_
      rintro e1 w1 ⟨rfl, rfl⟩
      go_wp2_with fail
      refine HS.out.mono ?_
      rintro e0 w1 ⟨_, rfl, v, n2, e1, rfl, hv0, hv1, hn2, -, hg, H1⟩
      have hpl := Lib.hid (lstS_sym hst.out hlN.out (hg rfl))
      clear HS H HK hg hst
      have H : Own w0 w1 (slc 3 1 (.slice a M c) M (nums l) :: Prt g rg s n2 e1 :: Tbl t T :: ps) := H1.front 2 rfl
      clear H1
      have HK := Lib.hid (ptok_any (H.front 1 rfl))
      by_cases he1 : e1 = 0
      case neg =>
        have hst := Lib.hid (hpl.out.1 he1)
        rw [decide_eq_false he1] at HK
        have hm2 := lmeasS_own (N := N) (M := M) (c := c) (a := a) (H.front 1 rfl)
        rw [if_neg he1] at hm2
        replace hm2 := Lib.hid hm2
        clear hpl he1
        go_wp2_with fail
        refine HK.out.mono ?_
        rintro e0 w2 ⟨rfl, rfl⟩
        go_wp2_with fail
        go_roundw
        case rel => exact ⟨l, n2, e1, by rw [hM.out]; omega, hn2, hst, by rw [hM.out]; exact H⟩
        case measure => rw [hm0.out, hm2.out]; omega
      subst he1
      rw [decide_eq_true rfl] at HK
      have hpl2 := Lib.hid (hpl.out.2 rfl)
      clear hpl
      by_cases hv : v < 16
      · have hst := Lib.hid (hpl2.out.1 hv)
        clear hpl2
        go_wp2_with fail
        refine HK.out.mono ?_
        rintro e0 w2 ⟨rfl, rfl⟩
        clear HK
        go_wp2_with (at_builtin; refine wpList_append_one rfl _ _ rfl Try.underlying30 intInfo rfl (by decide) rfl H rfl rfl rfl (by simp [Value.oneCell']) (by omega) (by omega) ?_; clear H; intro v' w' H; obtain ⟨a', c', rfl, h1', h2'⟩ := H.rd.shape)
        have hlen : M + 1 = (l ++ [v]).length := by rw [List.length_append, hM.out]; rfl
        have H4 : Own w0 w' (slc 3 1 (.slice a' (M + 1) c') (l ++ [v]).length (nums (l ++ [v])) :: Prt g rg s n2 0 :: Tbl t T :: ps) := by rw [← hlen, ← nums_append]; exact H
        have hm2 := lmeasS_own (N := N) (M := M + 1) (c := c') (a := a') (H4.front 1 rfl)
        rw [if_pos rfl] at hm2
        replace hm2 := Lib.hid hm2
        clear H
        try simp only [Act.put, List.setIfInBounds_toArray, List.set_cons_zero, List.set_cons_succ]
        go_roundw
        case rel => exact ⟨l ++ [v], n2, 0, by omega, hn2, hst, H4⟩
        case measure => rw [hm0.out, hm2.out]; omega
      have HF := Lib.hid (ptfail_any (H.front 1 rfl))
      rw [if_pos rfl] at HF
      have HT0 : ∀ (j : Nat) (wz : World) (pz : List Piece), j ≤ 16 → Own w0 wz (Prt g rg s n2 0 :: pz) → _ := fun j wz pz hj h => pttake_any j hj h hs hn2
      have HT1 := Lib.hid HT0
      clear HT0
      have htk : ∀ j : Nat, j ≤ 7 → ∃ V : Nat, Hid (tkV s n2 (j : Int) = V) ∧ V < 128 := fun j hj => by
        have hV := (tk_got (s := s) (n := n2) (k := j) (by omega) hn2).2
        refine ⟨(tkV s n2 (j : Int)).toNat, Lib.hid (by omega), ?_⟩
        exact tk_small hj (show tkV s n2 (j : Int) = _ by omega)
      replace htk := Lib.hid htk
      have hnle : ∀ j : Nat, tkN s n2 (j : Int) ≤ 8 * s.size := fun j => tkN_le hn2
      replace hnle := Lib.hid hnle
      by_cases hv1 : v = 16
      case neg =>
        by_cases hv2 : v = 17
        · subst hv2
          have hG := hpl2.out.2.2.2.1 rfl
          clear hpl2 HF
          obtain ⟨V, hv, hV2⟩ := htk.out 3 (by omega)
          have hst := Lib.hid (lstS_againM (by omega) hn2 hv.out hG)
          have hn3 := hnle.out 3
          clear hG htk hnle
          have HT := Lib.hid (HT1.out 3 _ _ (by omega) (H.front 1 rfl))
          rw [ptV_zero, ptN_zero] at HT
          obtain ⟨n3, hn3e⟩ : ∃ n3, Hid (tkN s n2 ((3 : Nat) : Int) = n3) := ⟨_, rfl⟩
          obtain ⟨E, hE⟩ : ∃ E, Hid (ptE s n2 ((3 : Nat) : Int) 0 = E) := ⟨_, rfl⟩
          rw [hv.out, hn3e.out, hE.out] at HT
          rw [hn3e.out, hE.out] at hst
          rw [hn3e.out] at hn3
          clear hE hn3e hv HT1
          have hw : IntKind.i64.wrap (3 + (V : Int)) = 3 + (V : Int) := IntWalk.i64_in _ ⟨by omega, by omega⟩
          go_wp2_with fail
          refine HK.out.mono ?_
          rintro e0 w2 ⟨rfl, rfl⟩
          clear HK
          go_wp2_with fail
          refine HT.out.mono ?_
          rintro e2 w3 ⟨_, rfl, rfl, H1⟩
          have H2 : Own w0 w3 (slc 3 1 (.slice a M c) l.length (nums l) :: Prt g rg s n3 E :: Tbl t T :: ps) := by rw [hM.out]; exact H1.front 1 rfl
          have HA := Lib.hid (ptagain_any 0 (3 + V) N (by omega) hN (by rw [hM.out]; omega) H2)
          rw [show ((3 + V : Nat) : Int) = 3 + (V : Int) from by omega] at HA
          clear HT H1 H2 H
          go_wp2_with fail
          refine HA.out.mono ?_
          rintro e3 w4 ⟨_, rfl, H3⟩
          clear HA
          obtain ⟨a', c', rfl, -⟩ := H3.rd.shape
          have hm2 := Lib.hid (lmeasS_own (N := N) (M := (agM N l (3 + V) 0 E).length) (c := c') (a := a') (H3.front 1 rfl))
          go_wp2_with fail
          go_roundw
          case rel => exact ⟨_, n3, _, agM_len (by rw [hM.out]; omega), hn3, hst, H3⟩
          case measure => rw [hm0.out, hm2.out]; have := agM_less (N := N) (k := 3 + V) (l := l) (x := 0) (e := E) (by omega) (by rw [hM.out]; exact hlt); rw [hM.out] at this; exact this
        · have hG := hpl2.out.2.2.2.2 (by omega)
          have hvb1 : (v == 16) = false := by simp [hv1]
          have hvb2 : (v == 17) = false := by simp [hv2]
          clear hpl2 hv1 hv2 HF
          obtain ⟨V, hv, hV2⟩ := htk.out 7 (by omega)
          have hst := Lib.hid (lstS_againM (by omega) hn2 hv.out hG)
          have hn3 := hnle.out 7
          clear hG htk hnle
          have HT := Lib.hid (HT1.out 7 _ _ (by omega) (H.front 1 rfl))
          rw [ptV_zero, ptN_zero] at HT
          obtain ⟨n3, hn3e⟩ : ∃ n3, Hid (tkN s n2 ((7 : Nat) : Int) = n3) := ⟨_, rfl⟩
          obtain ⟨E, hE⟩ : ∃ E, Hid (ptE s n2 ((7 : Nat) : Int) 0 = E) := ⟨_, rfl⟩
          rw [hv.out, hn3e.out, hE.out] at HT
          rw [hn3e.out, hE.out] at hst
          rw [hn3e.out] at hn3
          clear hE hn3e hv HT1
          have hw : IntKind.i64.wrap (11 + (V : Int)) = 11 + (V : Int) := IntWalk.i64_in _ ⟨by omega, by omega⟩
          go_wp2_with fail
          refine HK.out.mono ?_
          rintro e0 w2 ⟨rfl, rfl⟩
          clear HK
          go_wp2_with fail
          refine HT.out.mono ?_
          rintro e2 w3 ⟨_, rfl, rfl, H1⟩
          have H2 : Own w0 w3 (slc 3 1 (.slice a M c) l.length (nums l) :: Prt g rg s n3 E :: Tbl t T :: ps) := by rw [hM.out]; exact H1.front 1 rfl
          have HA := Lib.hid (ptagain_any 0 (11 + V) N (by omega) hN (by rw [hM.out]; omega) H2)
          rw [show ((11 + V : Nat) : Int) = 11 + (V : Int) from by omega] at HA
          clear HT H1 H2 H
          go_wp2_with fail
          refine HA.out.mono ?_
          rintro e3 w4 ⟨_, rfl, H3⟩
          clear HA
          obtain ⟨a', c', rfl, -⟩ := H3.rd.shape
          have hm2 := Lib.hid (lmeasS_own (N := N) (M := (agM N l (11 + V) 0 E).length) (c := c') (a := a') (H3.front 1 rfl))
          go_wp2_with fail
          go_roundw
          case rel => exact ⟨_, n3, _, agM_len (by rw [hM.out]; omega), hn3, hst, H3⟩
          case measure => rw [hm0.out, hm2.out]; have := agM_less (N := N) (k := 11 + V) (l := l) (x := 0) (e := E) (by omega) (by rw [hM.out]; exact hlt); rw [hM.out] at this; exact this
      subst hv1
      clear hv
      by_cases hM0 : M = 0
      · subst hM0
        have hst : Hid (LStS (textBits s) G T N l n2 2) := Lib.hid ⟨fun h => absurd h (by decide), fun _ => hpl2.out.2.1 rfl hM.out⟩
        clear hpl2 HT1 htk hnle
        go_wp2_with fail
        refine HK.out.mono ?_
        rintro e0 w2 ⟨rfl, rfl⟩
        clear HK
        go_wp2_with fail
        refine HF.out.mono ?_
        rintro e2 w3 ⟨_, rfl, H1⟩
        have H2 : Own w0 w3 (slc 3 1 (.slice a 0 c) 0 (nums l) :: Prt g rg s n2 2 :: Tbl t T :: ps) := H1.front 1 rfl
        have hm2 := lmeasS_own (N := N) (M := 0) (c := c) (a := a) H1
        rw [if_neg (by decide)] at hm2
        replace hm2 := Lib.hid hm2
        clear HF H1 H
        go_wp2_with fail
        go_roundw
        case rel => exact ⟨l, n2, 2, by rw [hM.out]; omega, hn2, hst, by rw [hM.out]; exact H2⟩
        case measure => rw [hm0.out, hm2.out]; omega
      obtain ⟨K, rfl⟩ : ∃ K, M = K + 1 := ⟨M - 1, by omega⟩
      have hG := hpl2.out.2.2.1 rfl (by rw [hM.out]; omega)
      clear hpl2 hM0 HF
      obtain ⟨x, hx⟩ : ∃ x, Hid (l.getD (l.length - 1) 0 = x) := ⟨_, rfl⟩
      rw [hx.out] at hG
      obtain ⟨V, hv, hV2⟩ := htk.out 2 (by omega)
      have hst := Lib.hid (lstS_againM (by omega) hn2 hv.out hG)
      have hn3 := hnle.out 2
      clear hG htk hnle
      have HT0 := fun wz pz h => HT1.out 2 wz pz (by omega) h
      rw [ptV_zero, ptN_zero] at HT0
      have HT := Lib.hid HT0
      clear HT0
      obtain ⟨n3, hn3e⟩ : ∃ n3, Hid (tkN s n2 ((2 : Nat) : Int) = n3) := ⟨_, rfl⟩
      obtain ⟨E, hE⟩ : ∃ E, Hid (ptE s n2 ((2 : Nat) : Int) 0 = E) := ⟨_, rfl⟩
      rw [hv.out, hn3e.out, hE.out] at HT
      rw [hn3e.out, hE.out] at hst
      rw [hn3e.out] at hn3
      clear hE hn3e hv HT1
      have hw : IntKind.i64.wrap (3 + (V : Int)) = 3 + (V : Int) := IntWalk.i64_in _ ⟨by omega, by omega⟩
      have hb1 : ((K : Int) + 1 == 0) = false := by simp; omega
      have hK1 : (K : Int) < (K : Int) + 1 := by omega
      have hwK : IntKind.i64.wrap (K : Int) = K := IntWalk.i64_in _ ⟨by omega, by omega⟩
      have hrow : Hid ((nums l)[K]? = some (.int .i64 x)) := Lib.hid (by
        rw [← hx.out, hM.out]
        unfold nums
        rw [List.getElem?_map, List.getElem?_eq_getElem (by rw [hM.out]; omega)]
        simp [List.getD, List.getElem?_eq_getElem (show K < l.length by rw [hM.out]; omega)])
      obtain ⟨bK, cK, hgK, hcK1, hcK2, -, -, -, -⟩ := H.at (by unfold nums; rw [List.length_map, hM.out]; omega)
      cases hgK
      have hcell : ∀ (w1 : World) (ps : List Piece), Own w0 w1 (slc 3 1 (.slice (some ⟨bK, 0, none⟩) (K + 1) c) (K + 1) (nums l) :: ps) → w1.cell? ⟨bK, K, none⟩ = some (.int .i64 x) := fun w1 ps h => by
        have h3 := h.rd.cell hrow.out
        simpa using h3
      replace hcell := Lib.hid hcell
      have c0 := hcell.out _ _ H
      go_wp2_with fail
      refine HK.out.mono ?_
      rintro e0 w2 ⟨rfl, rfl⟩
      clear HK c0
      go_upto_region 11 with (fail)
      have HD0 := H.drew
      clear H
      refine Trk.wp_region_new (fun σ w1 => Own w0 w1 (slc 3 1 (.slice (some ⟨bK, 0, none⟩) (K + 1) c) (K + 1) (nums l) :: (if (σ 9).isSome then Prt g rg s n3 E else Prt g rg s n2 0) :: Tbl t T :: ps)) 12 [] [9] (by intro k hk; simp at hk; subst hk; exact ⟨by omega, by simp, fun o ho => by simp at ho; subst ho; rfl⟩) (by kernel_rfl) (by kernel_rfl) HD0 ?_
      simp only [List.take_succ_cons, List.take_zero, List.drop_succ_cons, List.drop_zero]
      repeat
        first
        | (refine Trk.calm_value (v := ?_) (by decide) (by decide) rfl (fun σ w1 hS => ?_) ?_
           rotate_left
           · have c4 := hcell.out _ _ hS
             first | (go_simp; rfl) | rfl
           simp only [Act.put, List.setIfInBounds_toArray, List.set_cons_zero, List.set_cons_succ])
        | (refine Trk.calm_skip (by decide) rfl ?_
           simp only [Act.put, List.setIfInBounds_toArray, List.set_cons_zero, List.set_cons_succ])
      refine kcalm_call (v := .int .i64 V) (by decide) (by decide) rfl (fun w1 => (by go_simp; first | exact ⟨rfl, rfl⟩ | rfl)) (fun σ w1 hS hn => ?_) ?_
      · rw [hn] at hS
        have hS2 : Own w0 w1 (slc 3 1 (.slice (some ⟨bK, 0, none⟩) (K + 1) c) (K + 1) (nums l) :: Prt g rg s n2 0 :: Tbl t T :: ps) := hS
        refine (HT.out _ _ (hS2.front 1 rfl)).mono ?_
        rintro e5 w5 ⟨_, rfl, rfl, h5⟩
        refine ⟨rfl, ?_⟩
        have h6 := h5.front 1 rfl
        simpa [Sig.upd] using h6
      simp only [Act.put, List.setIfInBounds_toArray, List.set_cons_zero, List.set_cons_succ]
      repeat
        first
        | (refine Trk.calm_value (v := ?_) (by decide) (by decide) rfl (fun σ w1 hS => ?_) ?_
           rotate_left
           · have c4 := hcell.out _ _ hS
             first | (go_simp; rfl) | rfl
           simp only [Act.put, List.setIfInBounds_toArray, List.set_cons_zero, List.set_cons_succ])
        | (refine Trk.calm_skip (by decide) rfl ?_
           simp only [Act.put, List.setIfInBounds_toArray, List.set_cons_zero, List.set_cons_succ])
      refine Trk.calm_nil ?_
      intro σ wd _ hσ HD
      have h8 := hσ 9 (by decide)
      rw [if_pos h8] at HD
      clear hσ h8 HD0 HT hcell
      simp only [putNew, List.foldl_nil]
      have H2 : Own w0 wd (slc 3 1 (.slice (some ⟨bK, 0, none⟩) (K + 1) c) l.length (nums l) :: Prt g rg s n3 E :: Tbl t T :: ps) := by rw [hM.out]; exact HD
      have HA := Lib.hid (ptagain_any x (3 + V) N (by omega) hN (by rw [hM.out]; omega) H2)
      rw [show ((3 + V : Nat) : Int) = 3 + (V : Int) from by omega] at HA
      clear H2 HD
      go_wp2_with fail
      refine HA.out.mono ?_
      rintro e3 w3 ⟨_, rfl, H3⟩
      clear HA
      obtain ⟨a', c', rfl, -⟩ := H3.rd.shape
      have hm2 := Lib.hid (lmeasS_own (N := N) (M := (agM N l (3 + V) x E).length) (c := c') (a := a') (H3.front 1 rfl))
      go_wp2_with fail
      go_roundw
      case rel => exact ⟨_, n3, _, agM_len (by rw [hM.out]; omega), hn3, hst, H3⟩
      case measure => rw [hm0.out, hm2.out]; have := agM_less (N := N) (k := 3 + V) (l := l) (x := x) (e := E) (by omega) (by rw [hM.out]; exact hlt); rw [hM.out] at this; exact this
end Go.Proofs.Ytljejkdkjnbmhaa
/- An array of ints by value, read at an index. -/
namespace Go.Proofs.Ytljejkdkjnbmhaa
open Go.RowKit

theorem int_one (w : World) : (sizeOf 3).run Try.prog w = .ok 1 w ∧ (isAgg 3).run Try.prog w = .ok false w := by
  constructor <;> go_simp
end Go.Proofs.Ytljejkdkjnbmhaa
/- stream: the walk of codes. -/
namespace Go.Proofs.Ytljejkdkjnbmhaa
open Go.RowKit

/-- What dynamic leaves. -/
def DynPost (w0 : World) (ps : List Piece) (g rg : Nat) (s : ByteArray) (G : Got (List Int × List Int)) (r : Value) (w' : World) : Prop :=
  ∃ ao bo T n' e', r = .tuple #[.pointer ao, .pointer bo] ∧ n' ≤ 8 * s.size ∧ GotS G T n' e' ∧
    (e' = 0 → TabOk T.1 ∧ TabOk T.2 ∧ ∃ a b, ao = some ⟨a, 0, none⟩ ∧ bo = some ⟨b, 0, none⟩ ∧ Own w0 w' (Prt g rg s n' 0 :: Tbl a T.1 :: Tbl b T.2 :: ps)) ∧
    (e' ≠ 0 → Own w0 w' (Prt g rg s n' e' :: ps))

theorem Own.tblo_none {w0 w : World} {ps : List Piece} {v : Value} {l : List Int} (H : Own w0 w (TblO v l :: ps)) (h : terrF l ≠ 0) : v = .pointer none ∧ Own w0 w ps := by
  unfold TblO at H
  rw [if_neg h] at H
  exact H.fact
/-- A table that may be made already. -/
def optT (l : List Int) : Option Value → List Piece
  | none => []
  | some v => [TblO v l]
/-- The fault behind two tables, of which each may be made already. -/
def eF (l1 l2 : List Int) (e : Int) (a b : Option Value) : Int := if (a.isSome = true ∧ terrF l1 ≠ 0) ∨ (b.isSome = true ∧ terrF l2 ≠ 0) then (if e = 0 then 2 else e) else e
theorem eF_left {l1 l2 : List Int} {e : Int} {a b : Option Value} {v : Value} : eT l1 (eF l1 l2 e a b) = eF l1 l2 e (some v) b := by
  unfold eT eF
  simp only [Option.isSome_some, true_and]
  by_cases h1 : terrF l1 = 0
  · simp [h1]
  · simp only [h1, if_false, ne_eq, not_false_eq_true, and_true, true_or, if_true]
    repeat' split
    all_goals omega
theorem eF_right {l1 l2 : List Int} {e : Int} {a b : Option Value} {v : Value} : eT l2 (eF l1 l2 e a b) = eF l1 l2 e a (some v) := by
  unfold eT eF
  simp only [Option.isSome_some, true_and]
  by_cases h1 : terrF l2 = 0
  · simp [h1]
  · simp only [h1, if_false, ne_eq, not_false_eq_true, and_true, or_true, if_true]
    repeat' split
    all_goals omega
theorem Own.opt_left {w0 w : World} {A B : Piece} {l1 l2 : List Int} {a b : Option Value} {r : Value} {ps : List Piece} (H : Own w0 w (TblO r l1 :: A :: B :: (optT l1 a ++ (optT l2 b ++ ps)))) : Own w0 w (A :: B :: (optT l1 (some r) ++ (optT l2 b ++ ps))) := by
  cases a with
  | none => exact (H.front 2 rfl).front 2 rfl
  | some v => exact (((H.front 3 rfl).drop.front 2 rfl).front 2 rfl)
theorem Own.opt_right {w0 w : World} {A B : Piece} {l1 l2 : List Int} {a b : Option Value} {r : Value} {ps : List Piece} (H : Own w0 w (TblO r l2 :: A :: B :: (optT l1 a ++ (optT l2 b ++ ps)))) : Own w0 w (A :: B :: (optT l1 a ++ (optT l2 (some r) ++ ps))) := by
  cases a with
  | none =>
    cases b with
    | none => exact (H.front 2 rfl).front 2 rfl
    | some v => exact (((H.front 3 rfl).drop.front 2 rfl).front 2 rfl)
  | some u =>
    cases b with
    | none => exact ((H.front 3 rfl).front 3 rfl).front 3 rfl
    | some v => exact ((((H.front 4 rfl).drop.front 3 rfl).front 3 rfl).front 3 rfl)

theorem ptake_any {w0 w : World} {ps : List Piece} {g rg n : Nat} {s : ByteArray} {e : Int} (k : Nat) (hk : k ≤ 16) (H : Own w0 w (Prt g rg s n e :: ps)) (hs : s.size ≤ 1000000) (hn : n ≤ 8 * s.size) :
    Calls Try.prog 14 #[.pointer (some ⟨g, 0, none⟩), .int .i64 k] w (Ret fun r w' => ∃ v n' e', r = .int .i64 v ∧ 0 ≤ v ∧ v < 65536 ∧ n' ≤ 8 * s.size ∧ (e ≠ 0 → e' = e) ∧ (e' ≠ 0 → v = 0) ∧ (e = 0 → GotS (takeG (textBits s) k n) v n' e') ∧ Own w0 w' (Prt g rg s n' e' :: ps)) := by
  refine (pttake_any k hk H hs hn).mono ?_
  rintro e1 w1 ⟨_, rfl, rfl, H1⟩
  have hb := ptV_bd (s := s) (n := n) (k := k) (e := e) hk hn
  refine ⟨_, rfl, _, _, _, rfl, hb.1, hb.2, ptN_le hn, fun h => ptE_ne h, fun h => ?_, fun h => pt_got (by omega) hn h, H1⟩
  by_cases he : e = 0
  · subst he
    rw [ptV_zero]
    unfold ptE at h
    unfold tkV
    by_cases ho : tkOk s n (k : Int)
    · rw [if_pos ho] at h; exact absurd rfl h
    · rw [if_neg ho]
  · exact ptV_ne he
theorem dstS_full {bs : List Bool} {G : Got (List Int × List Int)} {a b : Int} {c4 n : Nat} {xs X : List Int} (h : DStS bs G a b c4 c4 xs X n 0) : X = unordF xs ∧ G = codesC bs a b xs n := by
  obtain ⟨h1, h2, h3⟩ := h.1 rfl
  rw [Nat.sub_self, lensG, Got.bind_ok] at h3
  exact ⟨h2, h3⟩
set_option maxRecDepth 100000 in
set_option maxHeartbeats 1600000 in
theorem ptlengths_bad {w0 w : World} {ps : List Piece} {g rg n : Nat} {s : ByteArray} {e : Int} (N : Nat) (ao : Option Addr) (he : e ≠ 0) (hN : 1 ≤ N) (H : Own w0 w (Prt g rg s n e :: ps)) :
    Calls Try.prog 49 #[.pointer (some ⟨g, 0, none⟩), .pointer ao, .int .i64 N] w (Ret fun r w' => r = .slice none 0 0 ∧ Own w0 w' (Prt g rg s n e :: ps)) := by
  have HK := Lib.hid (ptok_any H)
  rw [decide_eq_false he] at HK
  have hN1 : (0 : Int) < N := by omega
  have hN0 : 0 < N := by omega
  clear he
  go_enter Try.func49, Try.ntmps49
  go_wp2_with fail
  refine wp_loop_rounds 1 ?_
  rw [rounds_succ]
  go_wp2_with fail
  refine HK.out.mono ?_
  rintro e1 w1 ⟨rfl, rfl⟩
  go_wp2
  go_ret
  exact ⟨_, rfl, rfl, H⟩
set_option maxRecDepth 100000 in
set_option maxHeartbeats 3200000 in
theorem ptcodes_any {w0 w : World} {ps : List Piece} {g rg n : Nat} {s : ByteArray} (hs : s.size ≤ 1000000) (hn : n ≤ 8 * s.size) (H : Own w0 w (Prt g rg s n 0 :: ps)) :
    Calls Try.prog 31 #[.pointer (some ⟨g, 0, none⟩)] w (Ret (DynPost w0 ps g rg s (codesG (textBits s) n))) := by
  obtain ⟨B, hB⟩ : ∃ B, Hid (textBits s = B) := ⟨_, rfl⟩
  obtain ⟨G, hG⟩ : ∃ G, Hid (codesG B n = G) := ⟨_, rfl⟩
  rw [hB.out, hG.out]
  go_enter Try.func31, Try.ntmps31
  have HT := Lib.hid (ptake_any 5 (by omega) H hs hn)
  go_wp2_with fail
  refine HT.out.mono ?_
  rintro e w1 ⟨_, rfl, v1, n1, e1, rfl, hv1, hv1', hn1, -, -, hg1, H1⟩
  replace hg1 := Lib.hid (hg1 trivial)
  clear HT H
  have HT := Lib.hid (ptake_any 5 (by omega) H1 hs hn1)
  go_wp2_with fail
  refine HT.out.mono ?_
  rintro e w2 ⟨_, rfl, v2, n2, e2, rfl, hv2, hv2', hn2, he2, -, hg2, H2⟩
  replace hg2 := Lib.hid hg2
  replace he2 := Lib.hid he2
  clear HT H1
  have HT := Lib.hid (ptake_any 4 (by omega) H2 hs hn2)
  go_wp2_with fail
  refine HT.out.mono ?_
  rintro e w3 ⟨_, rfl, v3, n3, e3, rfl, hv3, hv3', hn3, he3, hz3, hg3, H⟩
  have hst := Lib.hid (dstS_start hg1.out he2.out hg2.out he3 hg3)
  clear HT H2 hg1 hg2 he2 hg3 he3
  rw [hB.out, hG.out] at hst
  have hC : v3 < 16 := by
    by_cases h3 : e3 = 0
    · exact (hst.out.1 h3).2.2.2
    · rw [hz3 h3]; omega
  clear hz3
  obtain ⟨A, rfl⟩ : ∃ A : Nat, v1 = A := ⟨v1.toNat, by omega⟩
  obtain ⟨D, rfl⟩ : ∃ D : Nat, v2 = D := ⟨v2.toNat, by omega⟩
  obtain ⟨C, rfl⟩ : ∃ C : Nat, v3 = C := ⟨v3.toNat, by omega⟩
  have hw1 : IntKind.i64.wrap (257 + (A : Int)) = 257 + (A : Int) := IntWalk.i64_in _ ⟨by omega, by omega⟩
  have hw2 : IntKind.i64.wrap (1 + (D : Int)) = 1 + (D : Int) := IntWalk.i64_in _ ⟨by omega, by omega⟩
  have hw3 : IntKind.i64.wrap (4 + (C : Int)) = 4 + (C : Int) := IntWalk.i64_in _ ⟨by omega, by omega⟩
  go_upto_region 2 with (fail)
  go_cut [26] (fun s26 wx => wx = w3 ∧ s26 = .bool (decide (29 < A ∨ 29 < D)))
  case first =>
    by_cases h1 : 29 < A
    · have h1' : (286 : Int) < 257 + (A : Int) := by omega
      have hd : decide (29 < A ∨ 29 < D) = true := by simp [h1]
      go_wp2
      go_meet
      exact ⟨rfl, by rw [hd]⟩
    · have h1' : ¬ (286 : Int) < 257 + (A : Int) := by omega
      by_cases h2 : 29 < D
      · have h2' : (30 : Int) < 1 + (D : Int) := by omega
        have hd : decide (29 < A ∨ 29 < D) = true := by simp [h2]
        go_wp2
        go_meet
        exact ⟨rfl, by rw [hd]⟩
      · have h2' : ¬ (30 : Int) < 1 + (D : Int) := by omega
        have hd : decide (29 < A ∨ 29 < D) = false := by simp; omega
        go_wp2
        go_meet
        exact ⟨rfl, by rw [hd]⟩
  case rest =>
    obtain ⟨rfl, rfl⟩ := hcut
    replace hst : Hid ((e3 = 0 → A < 32 ∧ D < 32 ∧ C < 16) ∧ ((29 < A ∨ 29 < D) → ∀ (v : List Int × List Int) (m : Nat), GotS G v m (if e3 = 0 then 2 else e3)) ∧ (¬ (29 < A ∨ 29 < D) → DStS B G A D (4 + C) 0 [] (zerosF 19) n3 e3)) := Lib.hid (by
      have h := hst.out
      simp only [Int.toNat_natCast] at h
      refine ⟨fun h0 => by have := h.1 h0; omega, fun hx => h.2.1 (by omega), fun hx => h.2.2 (by omega)⟩)
    go_upto_if 26 with (fail)
    go_cut [] (fun wx => ∃ e4 : Int, Hid (e4 = 0 → A ≤ 29 ∧ D ≤ 29 ∧ C < 16) ∧ Hid (DStS B G A D (4 + C) 0 [] (zerosF 19) n3 e4) ∧ Own w0 wx (Prt g rg s n3 e4 :: ps))
    case first =>
      by_cases hx : 29 < A ∨ 29 < D
      · have hb : decide (29 < A ∨ 29 < D) = true := by simp [hx]
        have h2 := hst.out.2.1 hx
        rw [hb]
        clear hx hb
        have HH := Lib.hid (ptfail_any (g := g) (rg := rg) H)
        obtain ⟨e4, he4⟩ : ∃ e4, Hid ((if e3 = 0 then 2 else e3) = e4) := ⟨_, rfl⟩
        have hne : Hid (e4 ≠ 0) := Lib.hid (by rw [← he4.out]; split <;> omega)
        rw [he4.out] at HH h2
        replace h2 := Lib.hid h2
        go_wp2_with fail
        refine HH.out.mono ?_
        rintro e w4 ⟨_, rfl, H4⟩
        clear HH
        go_wp2
        go_meet
        exact ⟨e4, Lib.hid fun h => absurd h hne.out, Lib.hid ⟨fun h => absurd h hne.out, fun _ => h2.out⟩, H4⟩
      · have hb : decide (29 < A ∨ 29 < D) = false := by simp; omega
        have h2 := Lib.hid (hst.out.2.2 hx)
        have h3 : Hid (e3 = 0 → A ≤ 29 ∧ D ≤ 29 ∧ C < 16) := Lib.hid fun h0 => by have := hst.out.1 h0; omega
        rw [hb]
        clear hx hb
        go_wp2
        go_meet
        exact ⟨e3, h3, h2, H⟩
    case rest =>
    clear hst H
    obtain ⟨e4, hb4, hst, H⟩ := hcut
    have hC16 : C < 16 := by omega
    clear hv1 hv2 hv3 hw1 hw2 hw3 hv1' hv2' hC
    go_upto_region 5 with (refine wpList_store_agg (vs := nums (ordF.map Int.ofNat)) (cur' := (nums (ordF.map Int.ofNat)).toArray) rfl _ _ rfl rfl (H.alloc (.cells #[.int .i64 0, .int .i64 0, .int .i64 0, .int .i64 0, .int .i64 0, .int .i64 0, .int .i64 0, .int .i64 0, .int .i64 0, .int .i64 0, .int .i64 0, .int .i64 0, .int .i64 0, .int .i64 0, .int .i64 0, .int .i64 0, .int .i64 0, .int .i64 0, .int .i64 0] 89)) rfl (by kernel_rfl) (by simp [nums, ordF]) (by simp [nums, ordF, Value.oneCell']) rfl ?_; clear H; intro w5 H)
    generalize wc.heap.size = bO at *
    have hord : Hid (∀ j, j < 19 → (nums (ordF.map Int.ofNat)).toArray[j]? = some (.int .i64 ((ordN j : Nat) : Int)) ∧ ordN j < 19) := Lib.hid (fun j hj => by
      have := (show ∀ j : Fin 19, ordN j.1 < 19 ∧ (ordF.map Int.ofNat)[j.1]? = some ((ordN j.1 : Nat) : Int) by decide) ⟨j, hj⟩
      refine ⟨?_, this.1⟩
      rw [List.getElem?_toArray]
      exact nums_get this.2)
    generalize (nums (ordF.map Int.ofNat)).toArray = OA at *
    have hmk : ∀ w : World, (Instr.makeSlice 30 (.int .i64 19) (.int .i64 19)).run Try.prog w = .ok (.slice (some ⟨w.heap.size, 0, none⟩) 19 19) (w.alloc (.cells (madeCells #[.int .i64 0] 19) 3)) := run_make_row' _ _ _ 8 Try.underlying30 intInfo rfl .i64 .i64 19 (by omega) (by omega)
    go_upto_region 6 with (fail)
    have h9 := (H.alloc (.cells (madeCells #[.int .i64 0] 19) 3)).slc_mk (xs := nums (zerosF 19)) (n := 19) (size := 1) rfl (Nat.le_refl _) (by simp [maxLen]) (by simp [size_madeCells]) (by rw [toList_madeCells_one]; rfl)
    clear H hmk
    generalize w5.alloc _ = w9 at *
    generalize w5.heap.size = gl at *
    have hsl : ∀ w, (Instr.sliceAt 89 (.pointer (some ⟨bO, 0, none⟩)) none (some (.int .i64 (4 + (C : Int)))) none).run Try.prog w = .ok (.slice (some ⟨bO, 0, none⟩) (4 + C) 19) w := fun w => by
      have hl : Try.prog.arrayLen 89 = 19 := by kernel_rfl
      have h := run_sliceAt_array_h (P := Try.prog) w 89 ⟨bO, 0, none⟩ Try.underlying89 .i64 (4 + (C : Int)) (by omega) (by rw [hl]; omega)
      have he : Try.prog.elem 89 = 3 := by kernel_rfl
      rw [h, hl, he, (int_one w).1]
      simp only [Result.andThen_ok, slicedAt, Nat.zero_mul, Nat.sub_zero]
      rw [if_neg (by omega), show ((4 : Int) + (C : Int)).toNat = 4 + C by omega]
      rfl
    have hmin : ¬ 19 < 4 + (C : Int) := by omega
    have hmin2 : 4 + (C : Int) ≤ 19 := by omega
    go_wp2_with fail
    go_loopw [10, 35] (fun _ s35 wx => ∃ (k : Nat) (xs X : List Int) (n4 : Nat) (e : Int), s35 = .int .i64 k ∧ k ≤ 4 + C ∧ X.length = 19 ∧ n4 ≤ 8 * s.size ∧ Hid (e = 0 → A ≤ 29 ∧ D ≤ 29 ∧ C < 16) ∧ Hid (DStS B G A D (4 + C) k xs X n4 e) ∧ Own w0 wx (slc 3 1 (.slice (some ⟨gl, 0, none⟩) 19 19) 19 (nums X) :: blk bO (.cells OA 89) :: Prt g rg s n4 e :: ps)) (fun _ s35 _ => 4 + C - (intOf s35).toNat)
    case atStart => exact ⟨0, [], zerosF 19, n3, e4, by go_num, by omega, rfl, hn3, hb4, hst, h9⟩
    case round =>
      clear h9 hst hb4 hmin hmin2
      obtain ⟨k, xs, X, n4, e, rfl, hk, hX, hn4, hb4, hst, H⟩ := hrel
      replace hX := Lib.hid hX
      by_cases hkc : k < 4 + C
      · have hkcI : (k : Int) < 4 + (C : Int) := by omega
        have hk19 : k < 19 := by omega
        obtain ⟨hoa, ho19⟩ := hord.out k hk19
        have c0 : wr.cell? ⟨bO, k, none⟩ = some (.int .i64 ((ordN k : Nat) : Int)) := by rw [(H.front 1 rfl).cells]; exact hoa
        have HT := Lib.hid (ptake_any 3 (by omega) (H.front 2 rfl) hs hn4)
        obtain ⟨oj, hoj⟩ : ∃ oj, Hid (ordN k = oj) := ⟨_, rfl⟩
        rw [hoj.out] at c0 ho19
        have hojI : (oj : Int) < 19 := by omega
        clear hoa
        go_wp2_with fail
        refine HT.out.mono ?_
        rintro e0 w6 ⟨_, rfl, v, n5, e5, rfl, hv1, hv2, hn5, he5, -, hg, H1⟩
        have hst2 : Hid (∃ xs', DStS B G A D (4 + C) (k + 1) xs' (X.set oj v) n5 e5) := Lib.hid (by
          by_cases he : e = 0
          · subst he
            refine ⟨xs ++ [v], ?_⟩
            rw [← hoj.out]
            exact dstS_take hst.out hkc (by omega) (by have h := hg rfl; rw [hB.out] at h; exact h)
          · obtain rfl := he5 he
            exact ⟨xs, dstS_bad hst.out he⟩)
        have hb5 : Hid (e5 = 0 → A ≤ 29 ∧ D ≤ 29 ∧ C < 16) := Lib.hid fun h5 => by
          by_cases he : e = 0
          · exact hb4.out he
          · exact absurd ((he5 he).symm.trans h5) he
        clear HT H c0 hst hg he5 hb4
        have H : Own w0 w6 (slc 3 1 (.slice (some ⟨gl, 0, none⟩) 19 19) 19 (nums X) :: blk bO (.cells OA 89) :: Prt g rg s n5 e5 :: ps) := (H1.front 2 rfl).front 2 rfl |>.front 1 rfl |>.front 1 rfl
        clear H1
        go_wp2_with (refine wpList_store_slc rfl _ _ rfl rfl H (.int .i64 v) rfl (by kernel_rfl) ho19 rfl ?_; clear H; intro w7 H; rw [nums_set] at H)
        obtain ⟨xs', hst3⟩ := hst2.out
        replace hst3 := Lib.hid hst3
        go_roundw
        case rel => exact ⟨k + 1, xs', X.set oj v, n5, e5, by go_num, by omega, by rw [List.length_set]; exact hX.out, hn5, hb5, hst3, H⟩
        case measure => simp [intOf]; omega
      · obtain rfl : k = 4 + C := by omega
        clear hk hkc
        have hkI : ¬ 4 + (C : Int) < 4 + (C : Int) := by omega
        have HK := Lib.hid (ptok_any (H.front 2 rfl))
        by_cases he : e = 0
        case neg =>
          rw [decide_eq_false he] at HK
          have hbad := Lib.hid (hst.out.2 he)
          replace he := Lib.hid he
          clear hst hb4
          go_wp2_with fail
          refine HK.out.mono ?_
          rintro e1 w6 ⟨rfl, rfl⟩
          clear HK
          go_wp2_with fail
          go_ret2
          exact ⟨_, rfl, none, none, ([], []), n4, e, rfl, hn4, hbad.out _ _, fun h => absurd h he.out, fun _ => H.drop.drop⟩
        subst he
        rw [decide_eq_true rfl] at HK
        obtain ⟨hA29, hD29, -⟩ := hb4.out rfl
        obtain ⟨hXe, hGe⟩ := dstS_full hst.out
        replace hXe := Lib.hid hXe
        replace hGe := Lib.hid hGe
        clear hst hb4
        have HTB := Lib.hid (pttable_g H.rd (by omega) H.drop.drop)
        go_wp2_with fail
        refine HK.out.mono ?_
        rintro e1 w6 ⟨rfl, rfl⟩
        clear HK
        go_wp2_with fail
        refine HTB.out.mono ?_
        rintro e0 w6 ⟨pt, rfl, H1⟩
        clear HTB H
        have hwN : IntKind.i64.wrap (257 + (A : Int) + (1 + (D : Int))) = 257 + (A : Int) + (1 + (D : Int)) := IntWalk.i64_in _ ⟨by omega, by omega⟩
        by_cases ht : terrF X = 0
        case neg =>
          obtain ⟨rfl, H2⟩ := H1.tblo_none ht
          have hE : eT X 0 = 2 := by unfold eT; rw [if_neg ht, if_pos rfl]
          rw [hE] at H2
          have hbad := Lib.hid ((codesS_end (n' := 0) (l := []) (e' := 0) hGe.out).1 (by rw [← hXe.out]; exact ht))
          have HL := Lib.hid (ptlengths_bad (g := g) (rg := rg) (257 + A + (1 + D)) none (by decide) (by omega) H2)
          rw [show ((257 + A + (1 + D) : Nat) : Int) = 257 + (A : Int) + (1 + (D : Int)) by omega] at HL
          clear hE H1 H2 ht hGe
          go_wp2_with fail
          refine HL.out.mono ?_
          rintro e0 w7 ⟨_, rfl, rfl, H3⟩
          have HK := Lib.hid (ptok_any H3)
          rw [decide_eq_false (by decide)] at HK
          clear HL
          go_wp2_with fail
          refine HK.out.mono ?_
          rintro e1 w8 ⟨rfl, rfl⟩
          go_wp2_with fail
          go_ret2
          exact ⟨_, rfl, none, none, ([], []), n4, 2, rfl, hn4, hbad.out _ _, fun h => absurd h (by decide), fun _ => H3⟩
        obtain ⟨t, rfl, H2⟩ := H1.tblo ht
        have hE : eT X 0 = 0 := by unfold eT; rw [if_pos ht]
        rw [hE] at H2
        have HL := Lib.hid (ptlengths_any (g := g) (rg := rg) (257 + A + (1 + D)) (tab_ok ht) (by omega) hs hn4 H2.swap)
        rw [show ((257 + A + (1 + D) : Nat) : Int) = 257 + (A : Int) + (1 + (D : Int)) by omega, hB.out] at HL
        replace ht := Lib.hid ht
        clear hE H1 H2
        go_wp2_with fail
        refine HL.out.mono ?_
        rintro e0 w7 ⟨_, rfl, l, n5, e5, hn5, hl1, hl2, hg5, H3⟩
        have hce := Lib.hid ((codesS_end (n' := n5) (l := l) (e' := e5) hGe.out).2 (by rw [← hXe.out]; exact ht.out) (by rw [← hXe.out]; exact hg5))
        clear HL hGe hg5
        have HK := Lib.hid (ptok_any (H3.front 1 rfl))
        obtain ⟨a, c, rfl, hc1, hc2⟩ := H3.rd.shape
        by_cases he5 : e5 = 0
        case neg =>
          rw [decide_eq_false he5] at HK
          have hbad := Lib.hid (hce.out.1 he5)
          replace he5 := Lib.hid he5
          clear hce hl2
          go_wp2_with fail
          refine HK.out.mono ?_
          rintro e1 w8 ⟨rfl, rfl⟩
          go_wp2_with fail
          go_ret2
          exact ⟨_, rfl, none, none, ([], []), n5, e5, rfl, hn5, hbad.out _ _, fun h => absurd h he5.out, fun _ => (H3.drop.front 1 rfl).drop⟩
        subst he5
        rw [decide_eq_true rfl] at HK
        have hlN := Lib.hid (hl2 rfl)
        have hGl := Lib.hid (hce.out.2 rfl)
        clear hl1 hl2 hce
        obtain ⟨bl, c', hbl, -, -, -, -, hcl, -⟩ := H3.at (by rw [nums_length, hlN.out]; omega)
        cases hbl
        have c256 : w7.cell? ⟨bl, 256, none⟩ = some (.int .i64 (l.getD 256 0)) := hcl 256 _ (nums_get (getD_get (by rw [hlN.out]; omega)))
        obtain ⟨x, hx⟩ : ∃ x, Hid (l.getD 256 0 = x) := ⟨_, rfl⟩
        rw [hx.out] at c256 hGl
        replace hcl := Lib.hid hcl
        obtain ⟨M, hM⟩ : ∃ M, Hid (l.length = M) := ⟨_, rfl⟩
        rw [hM.out] at H3 hlN hc1 ⊢
        have hMb : 257 + A + 1 ≤ M := by have := hlN.out; omega
        have hMb2 : M ≤ 400 := by have := hlN.out; omega
        have h256 : (256 : Int) < (M : Int) := by omega
        go_wp2_with fail
        refine HK.out.mono ?_
        rintro e1 w8 ⟨rfl, rfl⟩
        clear HK
        go_upto_if 62 with (fail)
        obtain ⟨bx, hbx⟩ : ∃ b, Hid ((x == 0) = b) := ⟨_, rfl⟩
        rw [hbx.out]
        go_cut [] (fun wx => ∃ e6 : Int, Hid (e6 = if x = 0 then 2 else 0) ∧ Own w0 wx (slc 3 1 (.slice (some ⟨bl, 0, none⟩) M c) M (nums l) :: Prt g rg s n5 e6 :: Tbl t X :: ps))
        case first =>
          cases bx
          case true =>
            have he0 : Hid ((2 : Int) = if x = 0 then 2 else 0) := Lib.hid (if_pos (by simpa using hbx.out)).symm
            have HH := Lib.hid (ptfail_any (g := g) (rg := rg) (H3.front 1 rfl))
            rw [if_pos rfl] at HH
            go_wp2_with fail
            refine HH.out.mono ?_
            rintro e w4 ⟨_, rfl, H4⟩
            clear HH
            go_wp2
            go_meet
            exact ⟨2, he0, H4.front 1 rfl⟩
          case false =>
            have he0 : Hid ((0 : Int) = if x = 0 then 2 else 0) := Lib.hid (if_neg (by simpa using hbx.out)).symm
            go_wp2
            go_meet
            exact ⟨0, he0, H3⟩
        case rest =>
        clear c256 H3
        obtain ⟨e6, he6, H⟩ := hcut
        obtain ⟨l1, hl1⟩ : ∃ l1, Hid (l.take (257 + A) = l1) := ⟨_, rfl⟩
        obtain ⟨l2, hl2⟩ : ∃ l2, Hid (l.drop (257 + A) = l2) := ⟨_, rfl⟩
        rw [hl1.out, hl2.out] at hGl
        have hrd : ∀ (w1 : World) (qs : List Piece), Own w0 w1 (slc 3 1 (.slice (some ⟨bl, 0, none⟩) M c) M (nums l) :: qs) → Rd w1 1 (.slice (some ⟨bl, 0, none⟩) (257 + A) c) (257 + A) (nums l1) ∧ Rd w1 1 (.slice (some ⟨bl, 257 + A, none⟩) (M - (257 + A)) (c - (257 + A))) (M - (257 + A)) (nums l2) := fun w1 qs h => by
          have h1 := h.rd.take (k := 257 + A) (by omega)
          have h2 := h.rd.tail (k := 257 + A) (by omega)
          simp only [Nat.mul_one, Addr.add_lit, Nat.zero_add, nums, ← List.map_take, ← List.map_drop, hl1.out, hl2.out] at h1 h2
          exact ⟨h1, h2⟩
        replace hrd := Lib.hid hrd
        have hk1 : (257 : Int) + (A : Int) ≤ c := by omega
        have hk2 : (257 : Int) + (A : Int) ≤ M := by omega
        have hk3 : (0 : Int) ≤ 257 + (A : Int) := by omega
        have hk4 : ((257 : Int) + (A : Int)).toNat = 257 + A := by omega
        have hk5 : ¬ (257 + A = c) := by omega
        have hk6 : ¬ (c = 257 + A) := by omega
        have hk7 : M ≤ c := hc1
        go_upto_region 18 with (fail)
        have HD0 : Own w0 wc (Prt g rg s n5 (eF l1 l2 e6 none none) :: slc 3 1 (.slice (some ⟨bl, 0, none⟩) M c) M (nums l) :: (optT l1 none ++ (optT l2 none ++ (Tbl t X :: ps)))) := by
          have : eF l1 l2 e6 none none = e6 := by simp [eF]
          rw [this]
          exact H.front 1 rfl
        refine wp_region_new (fun σ w1 => Own w0 w1 (Prt g rg s n5 (eF l1 l2 e6 (σ 4) (σ 9)) :: slc 3 1 (.slice (some ⟨bl, 0, none⟩) M c) M (nums l) :: (optT l1 (σ 4) ++ (optT l2 (σ 9) ++ (Tbl t X :: ps))))) 10 [4, 9] (by kernel_rfl) (by kernel_rfl) HD0.drew ?_
        simp only [List.take_succ_cons, List.take_zero, List.drop_succ_cons, List.drop_zero]
        repeat
          first
          | (refine calm_value (v := ?_) (by decide) rfl (fun σ w1 hS => ?_) ?_
             rotate_left
             · skip
               first | (go_simp; rfl) | rfl
             simp only [Act.put, List.setIfInBounds_toArray, List.set_cons_zero, List.set_cons_succ])
          | (refine calm_skip (by decide) rfl ?_
             simp only [Act.put, List.setIfInBounds_toArray, List.set_cons_zero, List.set_cons_succ])
        refine ncalm_call (by decide) (fun w1 => (by go_simp; first | exact ⟨rfl, rfl⟩ | rfl)) (fun σ w1 hS => ?_) ?_
        · refine (pttable_g (hrd.out _ _ (hS.front 1 rfl)).1 (by omega) hS).mono ?_
          rintro e w8 ⟨r, rfl, h8⟩
          refine ⟨r, rfl, ?_⟩
          rw [eF_left (v := r)] at h8
          have h9 := h8.opt_left
          simpa [Sig.upd] using h9
        repeat
          first
          | (refine calm_value (v := ?_) (by decide) rfl (fun σ w1 hS => ?_) ?_
             rotate_left
             · skip
               first | (go_simp; rfl) | rfl
             simp only [Act.put, List.setIfInBounds_toArray, List.set_cons_zero, List.set_cons_succ])
          | (refine calm_skip (by decide) rfl ?_
             simp only [Act.put, List.setIfInBounds_toArray, List.set_cons_zero, List.set_cons_succ])
        refine ncalm_call (by decide) (fun w1 => (by go_simp; first | exact ⟨rfl, rfl⟩ | rfl)) (fun σ w1 hS => ?_) ?_
        · refine (pttable_g (hrd.out _ _ (hS.front 1 rfl)).2 (by omega) hS).mono ?_
          rintro e w8 ⟨r, rfl, h8⟩
          refine ⟨r, rfl, ?_⟩
          rw [eF_right (v := r)] at h8
          have h9 := h8.opt_right
          simpa [Sig.upd] using h9
        refine calm_nil ?_
        intro σ wd hσ HD
        obtain ⟨v4, hv4⟩ := Option.isSome_iff_exists.1 (hσ 4 (by decide))
        obtain ⟨v9, hv9⟩ := Option.isSome_iff_exists.1 (hσ 9 (by decide))
        rw [hv4, hv9] at HD
        simp only [putNew, List.foldl_cons, List.foldl_nil, hv4, hv9]
        simp only [Act.put, List.setIfInBounds_toArray, List.set_cons_zero, List.set_cons_succ, List.getElem?_cons_succ, List.getElem?_cons_zero, Option.bind_some, Option.getD_some]
        clear hσ hv4 hv9 hrd HD0 H
        obtain ⟨eL, heL⟩ : ∃ eL, Hid (eF l1 l2 e6 (some v4) (some v9) = eL) := ⟨_, rfl⟩
        rw [heL.out] at HD
        have HE : Own w0 wd (TblO v4 l1 :: TblO v9 l2 :: Prt g rg s n5 eL :: slc 3 1 (.slice (some ⟨bl, 0, none⟩) M c) M (nums l) :: Tbl t X :: ps) := (HD.front 3 rfl).front 3 rfl
        clear HD
        have hfin : Hid (∃ ao bo, v4 = .pointer ao ∧ v9 = .pointer bo ∧ GotS G (l1, l2) n5 eL ∧ (eL = 0 → TabOk l1 ∧ TabOk l2 ∧ ∃ a b, ao = some ⟨a, 0, none⟩ ∧ bo = some ⟨b, 0, none⟩ ∧ Own w0 wd (Prt g rg s n5 0 :: Tbl a l1 :: Tbl b l2 :: ps)) ∧ (eL ≠ 0 → Own w0 wd (Prt g rg s n5 eL :: ps))) := Lib.hid (by
          have hnil : eL ≠ 0 → Own w0 wd (Prt g rg s n5 eL :: ps) := fun _ => ((HE.drop.drop.front 1 rfl).drop.front 1 rfl).drop
          have e6c := he6.out
          have eLc := heL.out
          unfold eF at eLc
          simp only [Option.isSome_some, true_and] at eLc
          have hGc := hGl.out
          by_cases t1 : terrF l1 = 0
          · obtain ⟨a, rfl, HF⟩ := HE.tblo t1
            by_cases t2 : terrF l2 = 0
            · obtain ⟨b, rfl, HJ⟩ := (HF.front 1 rfl).tblo t2
              refine ⟨_, _, rfl, rfl, ?_, fun h0 => ⟨tab_ok t1, tab_ok t2, a, b, rfl, rfl, ?_⟩, hnil⟩
              · rw [if_neg (by simp [t1, t2])] at eLc
                by_cases hx0 : x = 0
                · rw [if_pos hx0] at e6c
                  rw [if_neg (by simp [hx0])] at hGc
                  rw [hGc, ← eLc, e6c]; rfl
                · rw [if_neg hx0] at e6c
                  rw [if_pos ⟨hx0, t1, t2⟩] at hGc
                  rw [hGc, ← eLc, e6c]; exact ⟨rfl, rfl, rfl⟩
              · rw [h0] at HJ
                have HK : Own w0 wd (Tbl b l2 :: Tbl a l1 :: Prt g rg s n5 0 :: ps) := ((HJ.front 3 rfl).drop.front 3 rfl).drop
                exact (HK.front 1 rfl).front 2 rfl
            · obtain ⟨rfl, HJ⟩ := (HF.front 1 rfl).tblo_none t2
              rw [if_pos (.inr t2)] at eLc
              have : eL = 2 := by rw [← eLc, e6c]; split <;> split <;> simp_all
              rw [if_neg (by simp [t2])] at hGc
              refine ⟨_, _, rfl, rfl, by rw [hGc, this]; rfl, fun h0 => by omega, hnil⟩
          · obtain ⟨rfl, HF⟩ := HE.tblo_none t1
            rw [if_pos (.inl t1)] at eLc
            have : eL = 2 := by rw [← eLc, e6c]; split <;> split <;> simp_all
            rw [if_neg (by simp [t1])] at hGc
            by_cases t2 : terrF l2 = 0
            · obtain ⟨b, rfl, HJ⟩ := HF.tblo t2
              exact ⟨_, _, rfl, rfl, by rw [hGc, this]; rfl, fun h0 => by omega, hnil⟩
            · obtain ⟨rfl, HJ⟩ := HF.tblo_none t2
              exact ⟨_, _, rfl, rfl, by rw [hGc, this]; rfl, fun h0 => by omega, hnil⟩)
        obtain ⟨ao, bo, rfl, rfl, hf1, hf2, hf3⟩ := hfin.out
        replace hf1 := Lib.hid hf1
        replace hf2 := Lib.hid hf2
        replace hf3 := Lib.hid hf3
        clear hfin HE
        go_wp2_with fail
        go_ret2
        exact ⟨_, rfl, ao, bo, (l1, l2), n5, eL, rfl, hn5, hf1.out, hf2.out, hf3.out⟩
end Go.Proofs.Ytljejkdkjnbmhaa
/- stream: the walk of fixed. -/
namespace Go.Proofs.Ytljejkdkjnbmhaa
open Go.RowKit

set_option maxRecDepth 100000 in
set_option maxHeartbeats 3200000 in
theorem stfixed_any (w : World) : Calls Try.prog 30 #[] w (Ret fun r w' => ∃ a b, r = .tuple #[.pointer (some ⟨a, 0, none⟩), .pointer (some ⟨b, 0, none⟩)] ∧ Own w w' [Tbl b fixD, Tbl a fixL]) := by
  have H := Own.start w
  go_enter Try.func30, Try.ntmps30
  go_wp2_with fail
  refine (repeat_any 144 (one_row (H.alloc (.cells #[.int .i64 8] 3)).block.1) (by omega)).mono ?_
  rintro e w1 ⟨v1, rfl, H1⟩
  have H := (H.alloc (.cells #[.int .i64 8] 3)).drop.join H1
  obtain ⟨a1, c1, rfl, -⟩ := H.rd.shape
  clear H1
  go_wp2_with fail
  refine (repeat_any 112 (one_row (H.alloc (.cells #[.int .i64 9] 3)).block.1) (by omega)).mono ?_
  rintro e w2 ⟨v2, rfl, H2⟩
  have H := (H.alloc (.cells #[.int .i64 9] 3)).drop.join H2
  obtain ⟨a2, c2, rfl, -⟩ := H.rd.shape
  clear H2
  go_wp2_with fail
  refine (repeat_any 24 (one_row (H.alloc (.cells #[.int .i64 7] 3)).block.1) (by omega)).mono ?_
  rintro e w3 ⟨v3, rfl, H3⟩
  have H := (H.alloc (.cells #[.int .i64 7] 3)).drop.join H3
  obtain ⟨a3, c3, rfl, -⟩ := H.rd.shape
  clear H3
  go_wp2_with fail
  refine (repeat_any 8 (one_row (H.alloc (.cells #[.int .i64 8] 3)).block.1) (by omega)).mono ?_
  rintro e w4 ⟨v4, rfl, H4⟩
  have H := (H.alloc (.cells #[.int .i64 8] 3)).drop.join H4
  obtain ⟨a4, c4, rfl, -⟩ := H.rd.shape
  clear H4
  go_wp2_with fail
  have H5 := H.alloc (.cells #[.slice a1 144 c1, .slice a2 112 c2, .slice a3 24 c3, .slice a4 8 c4] 30)
  have hrow : Rd (w4.alloc (.cells #[.slice a1 144 c1, .slice a2 112 c2, .slice a3 24 c3, .slice a4 8 c4] 30)) 1 (.slice (some ⟨w4.heap.size, 0, none⟩) 4 4) 4 [.slice a1 144 c1, .slice a2 112 c2, .slice a3 24 c3, .slice a4 8 c4] := by
    refine ⟨rfl, _, _, rfl, Nat.le_refl _, by decide, by simp, fun ad had j u hu => ?_⟩
    obtain rfl := Option.some.inj had
    rw [Addr.add_lit, Nat.zero_add, H5.cell]
    simpa using hu
  have h8 := (H5.front 1 rfl).rd
  have h24 := (H5.front 2 rfl).rd
  have h112 := (H5.front 3 rfl).rd
  have h144 := (H5.front 4 rfl).rd
  have hcc := concat_any [List.replicate 144 (8 : Int), List.replicate 112 9, List.replicate 24 7, List.replicate 8 8] [.slice a1 144 c1, .slice a2 112 c2, .slice a3 24 c3, .slice a4 8 c4] hrow rfl rfl (by omega) (fun k u L hu hL => by
    match k with
    | 0 => cases hu; cases hL; exact h144
    | 1 => cases hu; cases hL; exact h112
    | 2 => cases hu; cases hL; exact h24
    | 3 => cases hu; cases hL; exact h8
    | k + 4 => cases hu) (by rw [fixL_flat, fixL_ok.1]; omega)
  rw [fixL_flat, fixL_ok.1] at hcc
  refine hcc.mono ?_
  rintro e w5 ⟨v5, rfl, H6⟩
  have H7 : Own w w5 [slc 3 1 v5 288 (nums fixL)] := H5.bare.join H6
  obtain ⟨a5, c5, rfl, -⟩ := H7.rd.shape
  clear H6 H5 hcc hrow h8 h24 h112 h144 H
  go_wp2_with fail
  refine (hnew_any H7.rd (by omega)).mono ?_
  rintro e w6 ⟨_, rfl, pv, rfl, -, hn2⟩
  rw [fix_terr.1]
  obtain ⟨g, rfl, H8⟩ := hn2 fix_terr.1
  have H := H7.drop.join H8
  clear H8 H7 hn2
  go_wp2_with fail
  refine (repeat_any 32 (one_row (H.alloc (.cells #[.int .i64 5] 3)).block.1) (by omega)).mono ?_
  rintro e w7 ⟨v6, rfl, H6⟩
  have H7 := (H.alloc (.cells #[.int .i64 5] 3)).drop.join H6
  obtain ⟨a6, c6, rfl, -⟩ := H7.rd.shape
  clear H6 H
  go_wp2_with fail
  refine (hnew_any (F := fixD) H7.rd (by omega)).mono ?_
  rintro e w8 ⟨_, rfl, pv, rfl, -, hn2⟩
  rw [fix_terr.2]
  obtain ⟨g2, rfl, H8⟩ := hn2 fix_terr.2
  have H := H7.drop.join H8
  clear H8 H7 hn2
  go_wp2_with fail
  go_ret2
  exact ⟨_, rfl, _, _, rfl, H⟩
end Go.Proofs.Ytljejkdkjnbmhaa
/- stream: the walks of long, far. -/
namespace Go.Proofs.Ytljejkdkjnbmhaa
open Go.RowKit



set_option maxRecDepth 100000 in
set_option maxHeartbeats 1600000 in
theorem ptlong_mid {w0 w : World} {ps : List Piece} {g rg n : Nat} {s : ByteArray} {e : Int} (i : Nat) (hi : i < 20) (hs : s.size ≤ 1000000) (hn : n ≤ 8 * s.size) (H : Own w0 w (Prt g rg s n e :: ps)) :
    Calls Try.prog 26 #[.pointer (some ⟨g, 0, none⟩), .int .i64 ((265 + i : Nat) : Int)] w (Ret fun r w' => r = .int .i64 ((lenT0 (265 + i)).1 + ptV s n ((lenT0 (265 + i)).2 : Nat) e) ∧ Own w0 w' (Prt g rg s (ptN s n ((lenT0 (265 + i)).2 : Nat) e) (ptE s n ((lenT0 (265 + i)).2 : Nat) e) :: ps)) := by
  rw [lenT0_mid i hi]
  obtain ⟨j, hj⟩ : ∃ j, Hid (i / 4 + 1 = j) := ⟨_, rfl⟩
  have hj1 : 1 ≤ j ∧ j ≤ 5 := by have := hj.out; omega
  simp only
  rw [hj.out]
  obtain ⟨hV, hV2⟩ := ptV_bd (s := s) (n := n) (k := j) (e := e) (by omega) hn
  have HT : ∀ wz, Own w0 wz (Prt g rg s n e :: ps) → _ := fun wz h => pttake_any j (by omega) h hs hn
  replace HT := Lib.hid HT
  obtain ⟨V, hv⟩ : ∃ V, Hid (ptV s n j e = V) := ⟨_, rfl⟩
  obtain ⟨M, hm⟩ : ∃ M, Hid (ptN s n j e = M) := ⟨_, rfl⟩
  obtain ⟨E, hE⟩ : ∃ E, Hid (ptE s n j e = E) := ⟨_, rfl⟩
  rw [hv.out, hm.out, hE.out] at HT
  rw [hv.out] at hV hV2
  rw [hv.out, hm.out, hE.out]
  obtain ⟨q, hq⟩ : ∃ q : Nat, Hid (i % 4 = q) := ⟨_, rfl⟩
  have hq4 : q ≤ 3 := by have := hq.out; omega
  rw [hq.out]
  obtain ⟨c, hc⟩ : ∃ c : Nat, Hid (265 + i = c) := ⟨_, rfl⟩
  rw [hc.out]
  have hc1 : 265 ≤ c ∧ c ≤ 284 := by have := hc.out; omega
  obtain ⟨hc1, hc2⟩ := hc1
  have hlt : ¬ (c : Int) < 265 := by omega
  have heq : ((c : Int) == 285) = false := by simp; omega
  have hgt : ¬ 285 < (c : Int) := by omega
  have d1 : ((c : Int) - 261) / 4 = (j : Int) := by have := hc.out; have := hj.out; omega
  have d2 : ((c : Int) - 265).tmod 4 = (q : Int) := by have := hc.out; have := hq.out; rw [Int.tmod_eq_emod_of_nonneg (by omega)]; omega
  have d3 : ((c : Int) - 265) % 4 = (q : Int) := by have := hc.out; have := hq.out; omega
  obtain ⟨b, hb⟩ : ∃ b : Nat, Hid ((4 + q) * 2 ^ j = b) := ⟨_, rfl⟩
  have hb1 : b ≤ 224 := by
    rw [← hb.out]
    calc (4 + q) * 2 ^ j ≤ 7 * 2 ^ 5 := Nat.mul_le_mul (by omega) (Nat.pow_le_pow_right (by omega) hj1.2)
      _ = 224 := rfl
  rw [hb.out]
  have d4 : (4 + (q : Int)) * 2 ^ j = (b : Int) := by rw [← hb.out, Int.natCast_mul, Int.natCast_pow]; rfl
  have d5 : IntKind.i64.wrap (b : Int) = (b : Int) := IntWalk.i64_in _ ⟨by omega, by omega⟩
  have d6 : IntKind.i64.wrap (4 + (q : Int)) = 4 + (q : Int) := IntWalk.i64_in _ ⟨by omega, by omega⟩
  have d7 : IntKind.i64.wrap (3 + (b : Int)) = 3 + (b : Int) := IntWalk.i64_in _ ⟨by omega, by omega⟩
  have d8 : IntKind.i64.wrap ((c : Int) - 261) = (c : Int) - 261 := IntWalk.i64_in _ ⟨by omega, by omega⟩
  have d9 : IntKind.i64.wrap ((c : Int) - 265) = (c : Int) - 265 := IntWalk.i64_in _ ⟨by omega, by omega⟩
  have d10 : IntKind.i64.wrap (q : Int) = (q : Int) := IntWalk.i64_in _ ⟨by omega, by omega⟩
  have d11 : (j : Int) < 64 := by omega
  have d12 : ¬ (j : Int) < 0 := by omega
  have d13 : IntKind.i64.wrap (3 + (b : Int) + V) = 3 + (b : Int) + V := IntWalk.i64_in _ ⟨by omega, by omega⟩
  clear hj1
  go_enter Try.func26, Try.ntmps26
  go_upto_region 9 with (fail)
  refine Trk.wp_region_new (fun σ w1 => Own w0 w1 ((if (σ 9).isSome then Prt g rg s M E else Prt g rg s n e) :: ps)) 10 [] [9] (by intro k hk; simp at hk; subst hk; exact ⟨by omega, by simp, fun o ho => by simp at ho; subst ho; rfl⟩) (by kernel_rfl) (by kernel_rfl) H.drew ?_
  simp only [List.take_succ_cons, List.take_zero, List.drop_succ_cons, List.drop_zero]
  repeat
    first
    | (refine Trk.calm_value (v := ?_) (by decide) (by decide) rfl (fun σ w1 hS => ?_) ?_
       rotate_left
       · skip
         first | (go_simp; rfl) | rfl
       simp only [Act.put, List.setIfInBounds_toArray, List.set_cons_zero, List.set_cons_succ])
    | (refine Trk.calm_skip (by decide) rfl ?_
       simp only [Act.put, List.setIfInBounds_toArray, List.set_cons_zero, List.set_cons_succ])
  refine kcalm_call (v := .int .i64 V) (by decide) (by decide) rfl (fun w1 => (by go_simp; first | exact ⟨rfl, rfl⟩ | rfl)) (fun σ w1 hS hn => ?_) ?_
  · rw [hn] at hS
    refine (HT.out _ hS).mono ?_
    rintro e w2 ⟨_, rfl, rfl, h2⟩
    refine ⟨rfl, ?_⟩
    simpa [Sig.upd] using h2
  simp only [Act.put, List.setIfInBounds_toArray, List.set_cons_zero, List.set_cons_succ]
  refine Trk.calm_nil ?_
  intro σ wd _ hσ HD
  have h8 := hσ 9 (by decide)
  rw [if_pos h8] at HD
  clear H hσ h8
  simp only [putNew, List.foldl_nil]
  go_wp2
  go_ret
  exact ⟨_, rfl, by go_num, HD⟩

set_option maxRecDepth 100000 in
set_option maxHeartbeats 1600000 in
theorem ptlong_any {w0 w : World} {ps : List Piece} {g rg n : Nat} {s : ByteArray} {e : Int} (c : Nat) (hc : 257 ≤ c) (hc2 : c ≤ 1000000) (hs : s.size ≤ 1000000) (hn : n ≤ 8 * s.size) (H : Own w0 w (Prt g rg s n e :: ps)) :
    Calls Try.prog 26 #[.pointer (some ⟨g, 0, none⟩), .int .i64 (c : Int)] w (Ret fun r w' => ∃ v n' e', r = .int .i64 v ∧ 0 ≤ v ∧ v ≤ 70000 ∧ n' ≤ 8 * s.size ∧ (e ≠ 0 → e' = e) ∧ (e' = 0 → 1 ≤ v) ∧ (e = 0 → GotS (lenG (textBits s) c n) v n' e') ∧ Own w0 w' (Prt g rg s n' e' :: ps)) := by
  by_cases h1 : c < 265
  · obtain ⟨i, rfl⟩ : ∃ i, c = 257 + i := ⟨c - 257, by omega⟩
    have hi : i < 8 := by omega
    have hg : Hid (e = 0 → GotS (lenG (textBits s) ((257 + i : Nat) : Int) n) (3 + (i : Int)) n e) := Lib.hid (by
      intro he
      unfold lenG
      rw [if_neg (by omega), Int.toNat_natCast, lenT0_small i hi]
      have h := addP_got (s := s) (n := n) (k := 0) (b := 3 + i) (e := e) (by omega) hn he
      obtain ⟨z1, z2, z3⟩ := pt_zero (s := s) (e := e) hn
      rw [z1, z2, z3] at h
      simpa using h)
    have hl : (257 : Int) + (i : Int) < 265 := by omega
    have hw : IntKind.i64.wrap (257 + (i : Int) - 254) = 3 + (i : Int) := by rw [show 257 + (i : Int) - 254 = 3 + i by omega]; exact IntWalk.i64_in _ ⟨by omega, by omega⟩
    clear hc hc2 h1
    go_enter Try.func26, Try.ntmps26
    go_wp2
    go_ret
    exact ⟨_, rfl, 3 + (i : Int), n, e, by go_num, by omega, by omega, hn, fun _ => rfl, fun _ => by omega, hg.out, H⟩
  by_cases h2 : c < 285
  · obtain ⟨i, rfl⟩ : ∃ i, c = 265 + i := ⟨c - 265, by omega⟩
    have hi : i < 20 := by omega
    refine (ptlong_mid i hi hs hn H).mono ?_
    rintro e1 w1 ⟨_, rfl, rfl, H1⟩
    have hm := lenT0_mid i hi
    have hb : 1 ≤ (lenT0 (265 + i)).1 ∧ (lenT0 (265 + i)).1 ≤ 230 ∧ (lenT0 (265 + i)).2 ≤ 5 := by
      have : ∀ i : Fin 20, 1 ≤ (lenT0 (265 + i.val)).1 ∧ (lenT0 (265 + i.val)).1 ≤ 230 ∧ (lenT0 (265 + i.val)).2 ≤ 5 := by decide
      exact this ⟨i, hi⟩
    have hV : ptN s n ((lenT0 (265 + i)).2 : Nat) e ≤ 8 * s.size ∧ 0 ≤ ptV s n ((lenT0 (265 + i)).2 : Nat) e := ⟨ptN_le hn, (ptV_bd (by omega) hn).1⟩
    have hV2 := (ptV_bd (s := s) (n := n) (k := (lenT0 (265 + i)).2) (e := e) (by omega) hn).2
    refine ⟨_, rfl, _, _, _, rfl, by omega, by omega, hV.1, fun h => ptE_ne h, fun _ => by omega, fun h => ?_, H1⟩
    unfold lenG
    rw [if_neg (by omega), Int.toNat_natCast]
    exact addP_got (by omega) hn h
  by_cases h3 : c = 285
  · subst h3
    have hg : Hid (e = 0 → GotS (lenG (textBits s) ((285 : Nat) : Int) n) 258 n e) := Lib.hid (by
      intro he
      unfold lenG
      rw [if_neg (by omega), Int.toNat_natCast, lenT0_last]
      have h := addP_got (s := s) (n := n) (k := 0) (b := 258) (e := e) (by omega) hn he
      obtain ⟨z1, z2, z3⟩ := pt_zero (s := s) (e := e) hn
      rw [z1, z2, z3] at h
      simpa using h)
    clear hc hc2 h1 h2
    go_enter Try.func26, Try.ntmps26
    go_wp2
    go_ret
    exact ⟨_, rfl, 258, n, e, rfl, by omega, by omega, hn, fun _ => rfl, fun _ => by omega, hg.out, H⟩
  · have HH := Lib.hid (ptfail_any (g := g) (rg := rg) H)
    have hb1 : ¬ (c : Int) < 265 := by omega
    have hb2 : ((c : Int) == 285) = false := by simp; omega
    have hb3 : 285 < (c : Int) := by omega
    clear hc hc2 h1 h2 h3
    go_enter Try.func26, Try.ntmps26
    go_wp2_with fail
    refine HH.out.mono ?_
    rintro e1 w1 ⟨_, rfl, H1⟩
    go_wp2
    go_ret
    refine ⟨_, rfl, 0, n, _, rfl, by omega, by omega, hn, fun h => if_neg h, fun h => ?_, fun h => ?_, H1⟩
    · split at h <;> omega
    unfold lenG
    rw [if_pos hb3, if_pos h]
    rfl

set_option maxRecDepth 100000 in
set_option maxHeartbeats 1600000 in
theorem ptfar_mid {w0 w : World} {ps : List Piece} {g rg n : Nat} {s : ByteArray} {e : Int} (i : Nat) (hi : i < 26) (hs : s.size ≤ 1000000) (hn : n ≤ 8 * s.size) (H : Own w0 w (Prt g rg s n e :: ps)) :
    Calls Try.prog 27 #[.pointer (some ⟨g, 0, none⟩), .int .i64 ((4 + i : Nat) : Int)] w (Ret fun r w' => r = .int .i64 ((distT0 (4 + i)).1 + ptV s n ((distT0 (4 + i)).2 : Nat) e) ∧ Own w0 w' (Prt g rg s (ptN s n ((distT0 (4 + i)).2 : Nat) e) (ptE s n ((distT0 (4 + i)).2 : Nat) e) :: ps)) := by
  rw [distT0_mid i hi]
  obtain ⟨j, hj⟩ : ∃ j, Hid (i / 2 + 1 = j) := ⟨_, rfl⟩
  have hj1 : 1 ≤ j ∧ j ≤ 13 := by have := hj.out; omega
  simp only
  rw [hj.out]
  obtain ⟨hV, hV2⟩ := ptV_bd (s := s) (n := n) (k := j) (e := e) (by omega) hn
  have HT : ∀ wz, Own w0 wz (Prt g rg s n e :: ps) → _ := fun wz h => pttake_any j (by omega) h hs hn
  replace HT := Lib.hid HT
  obtain ⟨V, hv⟩ : ∃ V, Hid (ptV s n j e = V) := ⟨_, rfl⟩
  obtain ⟨M, hm⟩ : ∃ M, Hid (ptN s n j e = M) := ⟨_, rfl⟩
  obtain ⟨E, hE⟩ : ∃ E, Hid (ptE s n j e = E) := ⟨_, rfl⟩
  rw [hv.out, hm.out, hE.out] at HT
  rw [hv.out] at hV hV2
  rw [hv.out, hm.out, hE.out]
  obtain ⟨q, hq⟩ : ∃ q : Nat, Hid (i % 2 = q) := ⟨_, rfl⟩
  have hq4 : q ≤ 1 := by have := hq.out; omega
  rw [hq.out]
  obtain ⟨c, hc⟩ : ∃ c : Nat, Hid (4 + i = c) := ⟨_, rfl⟩
  rw [hc.out]
  have hc1 : 4 ≤ c ∧ c ≤ 29 := by have := hc.out; omega
  obtain ⟨hc1, hc2⟩ := hc1
  have hlt : ¬ (c : Int) < 4 := by omega
  have hgt : ¬ 29 < (c : Int) := by omega
  have d1 : ((c : Int) - 2) / 2 = (j : Int) := by have := hc.out; have := hj.out; omega
  have d2 : (c : Int).tmod 2 = (q : Int) := by have := hc.out; have := hq.out; rw [Int.tmod_eq_emod_of_nonneg (by omega)]; omega
  have d3 : (c : Int) % 2 = (q : Int) := by have := hc.out; have := hq.out; omega
  obtain ⟨b, hb⟩ : ∃ b : Nat, Hid ((2 + q) * 2 ^ j = b) := ⟨_, rfl⟩
  have hb1 : b ≤ 24576 := by
    rw [← hb.out]
    calc (2 + q) * 2 ^ j ≤ 3 * 2 ^ 13 := Nat.mul_le_mul (by omega) (Nat.pow_le_pow_right (by omega) hj1.2)
      _ = 24576 := rfl
  rw [hb.out]
  have d4 : (2 + (q : Int)) * 2 ^ j = (b : Int) := by rw [← hb.out, Int.natCast_mul, Int.natCast_pow]; rfl
  have d5 : IntKind.i64.wrap (b : Int) = (b : Int) := IntWalk.i64_in _ ⟨by omega, by omega⟩
  have d6 : IntKind.i64.wrap (2 + (q : Int)) = 2 + (q : Int) := IntWalk.i64_in _ ⟨by omega, by omega⟩
  have d7 : IntKind.i64.wrap (1 + (b : Int)) = 1 + (b : Int) := IntWalk.i64_in _ ⟨by omega, by omega⟩
  have d8 : IntKind.i64.wrap ((c : Int) - 2) = (c : Int) - 2 := IntWalk.i64_in _ ⟨by omega, by omega⟩
  have d10 : IntKind.i64.wrap (q : Int) = (q : Int) := IntWalk.i64_in _ ⟨by omega, by omega⟩
  have d11 : (j : Int) < 64 := by omega
  have d12 : ¬ (j : Int) < 0 := by omega
  have d13 : IntKind.i64.wrap (1 + (b : Int) + V) = 1 + (b : Int) + V := IntWalk.i64_in _ ⟨by omega, by omega⟩
  clear hj1
  go_enter Try.func27, Try.ntmps27
  go_upto_region 7 with (fail)
  refine Trk.wp_region_new (fun σ w1 => Own w0 w1 ((if (σ 8).isSome then Prt g rg s M E else Prt g rg s n e) :: ps)) 9 [] [8] (by intro k hk; simp at hk; subst hk; exact ⟨by omega, by simp, fun o ho => by simp at ho; subst ho; rfl⟩) (by kernel_rfl) (by kernel_rfl) H.drew ?_
  simp only [List.take_succ_cons, List.take_zero, List.drop_succ_cons, List.drop_zero]
  repeat
    first
    | (refine Trk.calm_value (v := ?_) (by decide) (by decide) rfl (fun σ w1 hS => ?_) ?_
       rotate_left
       · skip
         first | (go_simp; rfl) | rfl
       simp only [Act.put, List.setIfInBounds_toArray, List.set_cons_zero, List.set_cons_succ])
    | (refine Trk.calm_skip (by decide) rfl ?_
       simp only [Act.put, List.setIfInBounds_toArray, List.set_cons_zero, List.set_cons_succ])
  refine kcalm_call (v := .int .i64 V) (by decide) (by decide) rfl (fun w1 => (by go_simp; first | exact ⟨rfl, rfl⟩ | rfl)) (fun σ w1 hS hn => ?_) ?_
  · rw [hn] at hS
    refine (HT.out _ hS).mono ?_
    rintro e w2 ⟨_, rfl, rfl, h2⟩
    refine ⟨rfl, ?_⟩
    simpa [Sig.upd] using h2
  simp only [Act.put, List.setIfInBounds_toArray, List.set_cons_zero, List.set_cons_succ]
  refine Trk.calm_nil ?_
  intro σ wd _ hσ HD
  have h8 := hσ 8 (by decide)
  rw [if_pos h8] at HD
  clear H hσ h8
  simp only [putNew, List.foldl_nil]
  go_wp2
  go_ret
  exact ⟨_, rfl, by go_num, HD⟩
set_option maxRecDepth 100000 in
set_option maxHeartbeats 1600000 in
theorem ptfar_any {w0 w : World} {ps : List Piece} {g rg n : Nat} {s : ByteArray} {e : Int} (c : Nat) (hc2 : c ≤ 1000000) (hs : s.size ≤ 1000000) (hn : n ≤ 8 * s.size) (H : Own w0 w (Prt g rg s n e :: ps)) :
    Calls Try.prog 27 #[.pointer (some ⟨g, 0, none⟩), .int .i64 (c : Int)] w (Ret fun r w' => ∃ v n' e', r = .int .i64 v ∧ 0 ≤ v ∧ v ≤ 100000 ∧ n' ≤ 8 * s.size ∧ (e ≠ 0 → e' = e) ∧ (e' = 0 → 1 ≤ v) ∧ (e = 0 → GotS (distG (textBits s) c n) v n' e') ∧ Own w0 w' (Prt g rg s n' e' :: ps)) := by
  by_cases h1 : c < 4
  · have hg : Hid (e = 0 → GotS (distG (textBits s) (c : Int) n) (1 + (c : Int)) n e) := Lib.hid (by
      intro he
      unfold distG
      rw [if_neg (by omega), Int.toNat_natCast, distT0_small c h1]
      have h := addP_got (s := s) (n := n) (k := 0) (b := 1 + c) (e := e) (by omega) hn he
      obtain ⟨z1, z2, z3⟩ := pt_zero (s := s) (e := e) hn
      rw [z1, z2, z3] at h
      simpa using h)
    have hl : (c : Int) < 4 := by omega
    have hw : IntKind.i64.wrap ((c : Int) + 1) = 1 + (c : Int) := by rw [show (c : Int) + 1 = 1 + c by omega]; exact IntWalk.i64_in _ ⟨by omega, by omega⟩
    clear hc2 h1
    go_enter Try.func27, Try.ntmps27
    go_wp2
    go_ret
    exact ⟨_, rfl, 1 + (c : Int), n, e, by go_num, by omega, by omega, hn, fun _ => rfl, fun _ => by omega, hg.out, H⟩
  by_cases h2 : c < 30
  · obtain ⟨i, rfl⟩ : ∃ i, c = 4 + i := ⟨c - 4, by omega⟩
    have hi : i < 26 := by omega
    refine (ptfar_mid i hi hs hn H).mono ?_
    rintro e1 w1 ⟨_, rfl, rfl, H1⟩
    have hb : 1 ≤ (distT0 (4 + i)).1 ∧ (distT0 (4 + i)).1 ≤ 24577 ∧ (distT0 (4 + i)).2 ≤ 13 := by
      have : ∀ i : Fin 26, 1 ≤ (distT0 (4 + i.val)).1 ∧ (distT0 (4 + i.val)).1 ≤ 24577 ∧ (distT0 (4 + i.val)).2 ≤ 13 := by decide
      exact this ⟨i, hi⟩
    have hV : ptN s n ((distT0 (4 + i)).2 : Nat) e ≤ 8 * s.size ∧ 0 ≤ ptV s n ((distT0 (4 + i)).2 : Nat) e := ⟨ptN_le hn, (ptV_bd (by omega) hn).1⟩
    have hV2 := (ptV_bd (s := s) (n := n) (k := (distT0 (4 + i)).2) (e := e) (by omega) hn).2
    refine ⟨_, rfl, _, _, _, rfl, by omega, by omega, hV.1, fun h => ptE_ne h, fun _ => by omega, fun h => ?_, H1⟩
    unfold distG
    rw [if_neg (by omega), Int.toNat_natCast]
    exact addP_got (by omega) hn h
  · have HH := Lib.hid (ptfail_any (g := g) (rg := rg) H)
    have hb1 : ¬ (c : Int) < 4 := by omega
    have hb3 : 29 < (c : Int) := by omega
    clear hc2 h1 h2
    go_enter Try.func27, Try.ntmps27
    go_wp2_with fail
    refine HH.out.mono ?_
    rintro e1 w1 ⟨_, rfl, H1⟩
    go_wp2
    go_ret
    refine ⟨_, rfl, 0, n, _, rfl, by omega, by omega, hn, fun h => if_neg h, fun h => ?_, fun h => ?_, H1⟩
    · split at h <;> omega
    · unfold distG
      rw [if_pos hb3, if_pos h]
      rfl
end Go.Proofs.Ytljejkdkjnbmhaa
/- stream: the reader; the walk of stored. -/
namespace Go.Proofs.Ytljejkdkjnbmhaa
open Go.RowKit

/-- A reader's record. -/
structure Rec where
  buf : ByteArray
  bit : Int
  used : Int
  out : List Int
  most : Int
  told : Int
  inside : Bool
  last : Bool
  lit : Value
  dist : Value
  e : Int
  done : Bool
def StR (g : Nat) (r : Rec) : Piece := ex fun v =>
  star (blk g (.cells #[.string r.buf, .int .i64 r.bit, .int .i64 r.used, v, .int .i64 r.most, .int .i64 r.told, .bool r.inside, .bool r.last, r.lit, r.dist, .int .i64 r.e, .bool r.done] 40)) (slc 5 1 v r.out.length (bcells r.out))
theorem Own.str {w0 w : World} {ps : List Piece} {g : Nat} {buf : ByteArray} {bit used most told e : Int} {out : List Int} {inside last done : Bool} {lit dist : Value} (H : Own w0 w (StR g ⟨buf, bit, used, out, most, told, inside, last, lit, dist, e, done⟩ :: ps)) :
    ∃ a c, out.length ≤ c ∧ c ≤ 9223372036854775807 ∧ Own w0 w (blk g (.cells #[.string buf, .int .i64 bit, .int .i64 used, .slice a out.length c, .int .i64 most, .int .i64 told, .bool inside, .bool last, lit, dist, .int .i64 e, .bool done] 40) :: slc 5 1 (.slice a out.length c) out.length (bcells out) :: ps) := by
  obtain ⟨v, H⟩ := H.ex
  replace H := H.star
  obtain ⟨a, c, rfl, h1, h2⟩ := (H.front 1 rfl).rd.shape
  exact ⟨a, c, h1, h2, H⟩
theorem Own.unstr {w0 w : World} {ps : List Piece} {g m : Nat} {buf : ByteArray} {bit used most told e : Int} {out : List Int} {inside last done : Bool} {lit dist v : Value} (H : Own w0 w (blk g (.cells #[.string buf, .int .i64 bit, .int .i64 used, v, .int .i64 most, .int .i64 told, .bool inside, .bool last, lit, dist, .int .i64 e, .bool done] 40) :: slc 5 1 v m (bcells out) :: ps)) (hm : m = out.length) : Own w0 w (StR g ⟨buf, bit, used, out, most, told, inside, last, lit, dist, e, done⟩ :: ps) := by
  subst hm
  exact Own.unex v (Own.unstar H)

set_option maxRecDepth 100000 in
set_option maxHeartbeats 3200000 in
theorem ststored_any {w0 w : World} {ps : List Piece} {gr g rg n : Nat} {s : ByteArray} {buf : ByteArray} {bit used most told e : Int} {out : List Int} {inside last done : Bool} {lit dist : Value} (hm : 0 ≤ most ∧ most ≤ 1000000) (ho : (out.length : Int) ≤ most) (hs : s.size ≤ 1000000) (hn : n ≤ 8 * s.size)
    (H : Own w0 w (StR gr ⟨buf, bit, used, out, most, told, inside, last, lit, dist, e, done⟩ :: Prt g rg s n 0 :: ps)) :
    Calls Try.prog 29 #[.pointer (some ⟨gr, 0, none⟩), .pointer (some ⟨g, 0, none⟩)] w (Ret fun _ w' => ∃ out' n' e', n' ≤ 8 * s.size ∧ (out'.length : Int) ≤ most ∧ GotS (storedG (textBits s) most out n) out' n' e' ∧ (e' ≠ 0 → out' = out) ∧ Own w0 w' (StR gr ⟨buf, bit, used, out', most, told, inside, last, lit, dist, e, done⟩ :: Prt g rg s n' e' :: ps)) := by
  obtain ⟨q, hq⟩ : ∃ q, Hid (nbytes n = q) := ⟨_, rfl⟩
  have hqs : 8 * q ≤ 8 * s.size := by have := hq.out; unfold nbytes at this; omega
  obtain ⟨G, hG⟩ : ∃ G, Hid (storedG (textBits s) most out n = G) := ⟨_, rfl⟩
  rw [hG.out]
  have hG2 : Hid (G = (takeG (textBits s) 16 (8 * q)).bind fun a n1 => (takeG (textBits s) 16 n1).bind fun b n2 =>
    if a + b = 65535 then
      (if n2 + 8 * a.toNat ≤ (textBits s).length then (if most - out.length < a then .bad 12 else .ok (out ++ bytesAt (textBits s) n2 a.toNat) (n2 + 8 * a.toNat)) else .ran)
    else .bad 2) := Lib.hid (by rw [← hG.out]; unfold storedG; rw [hq.out])
  have HP := (H.front 1 rfl).prt
  rw [se_zero.1, se_zero.2] at HP
  have c0 := HP.cells
  have HA := Lib.hid (rdalign_any HP.swap (by omega))
  rw [hq.out] at HA
  go_enter Try.func29, Try.ntmps29
  go_wp2_with fail
  refine HA.out.mono ?_
  rintro e0 w1 ⟨_, rfl, H1⟩
  clear HA HP H c0
  have H : Own w0 w1 (Prt g rg s (8 * q) 0 :: StR gr ⟨buf, bit, used, out, most, told, inside, last, lit, dist, e, done⟩ :: ps) := Own.unprt H1.swap
  clear H1
  have HT := Lib.hid (ptake_any 16 (by omega) H hs hqs)
  go_wp2_with fail
  refine HT.out.mono ?_
  rintro e0 w2 ⟨_, rfl, v1, n1, e1, rfl, hv1, hv1', hn1, -, -, hg1, H1⟩
  replace hg1 := Lib.hid (takeS_got (hg1 trivial))
  clear HT H
  have HT := Lib.hid (ptake_any 16 (by omega) H1 hs hn1)
  go_wp2_with fail
  refine HT.out.mono ?_
  rintro e0 w3 ⟨_, rfl, v2, n2, e2, rfl, hv2, hv2', hn2, he2, -, hg2, H⟩
  replace hg2 := Lib.hid (fun h => takeS_got (hg2 h))
  replace he2 := Lib.hid he2
  clear HT H1
  have hcase : Hid (e2 = -1 ∧ G = .ran ∨ e2 = 0 ∧ n2 = 8 * (q + 4) ∧ (G = if v1 + v2 = 65535 then
      (if n2 + 8 * v1.toNat ≤ 8 * s.size then (if most - out.length < v1 then .bad 12 else .ok (out ++ bytesAt (textBits s) n2 v1.toNat) (n2 + 8 * v1.toNat)) else .ran)
    else .bad 2)) := Lib.hid (by
      rcases hg1.out with ⟨rfl, e, e', _⟩ | ⟨rfl, e⟩
      · rcases hg2.out rfl with ⟨rfl, f, f', _⟩ | ⟨rfl, f⟩
        · right
          refine ⟨rfl, by omega, ?_⟩
          rw [hG2.out, e, Got.bind_ok, f, Got.bind_ok, textBits_length]
        · left
          refine ⟨rfl, ?_⟩
          rw [hG2.out, e, Got.bind_ok, f]; rfl
      · left
        refine ⟨he2.out (by decide), ?_⟩
        rw [hG2.out, e]; rfl)
  clear hg1 hg2 he2 hG2
  obtain ⟨x, hx, hx2⟩ := xor_num ⟨hv1, hv1'⟩ ⟨hv2, hv2'⟩
  replace hx2 := Lib.hid hx2
  have HK := Lib.hid (ptok_any H)
  rcases hcase.out with ⟨rfl, hGr⟩ | ⟨rfl, rfl, hGr⟩
  · replace hGr := Lib.hid hGr
    rw [decide_eq_false (by decide)] at HK
    clear hcase
    go_wp2_with fail
    refine HK.out.mono ?_
    rintro e0 w4 ⟨rfl, rfl⟩
    go_wp2_with fail
    refine HK.out.mono ?_
    rintro e0 w4 ⟨rfl, rfl⟩
    go_wp2
    refine bodyPost_ret (results_none rfl _ _ _) rfl ?_
    exact ⟨_, rfl, out, n2, -1, hn2, ho, by rw [hGr.out]; rfl, fun _ => rfl, H.front 1 rfl⟩
  · clear hcase
    rw [decide_eq_true rfl] at HK
    by_cases hx3 : x = 65535
    case neg =>
      have hxb : (x != 65535) = true := by simpa using hx3
      have HH := Lib.hid (ptfail_any H)
      rw [if_pos rfl] at HH
      rw [if_neg (fun h => hx3 (hx2.out.2 h))] at hGr
      replace hGr := Lib.hid hGr
      go_wp2_with fail
      refine HK.out.mono ?_
      rintro e0 w4 ⟨rfl, rfl⟩
      go_wp2_with fail
      refine HH.out.mono ?_
      rintro e0 w4 ⟨_, rfl, H3⟩
      have HK2 := Lib.hid (ptok_any H3)
      rw [decide_eq_false (by decide)] at HK2
      clear HH HK H hx hx3 hxb
      go_wp2_with fail
      refine HK2.out.mono ?_
      rintro e0 w5 ⟨rfl, rfl⟩
      go_wp2
      refine bodyPost_ret (results_none rfl _ _ _) rfl ?_
      exact ⟨_, rfl, out, _, 2, hn2, ho, by rw [hGr.out]; rfl, fun _ => rfl, H3.front 1 rfl⟩
    have hxb : (x != 65535) = false := by simpa using hx3
    rw [if_pos (hx2.out.1 hx3)] at hGr
    replace hGr := Lib.hid hGr
    have HP := H.prt
    rw [se_zero.1, se_zero.2] at HP
    have HX := Lib.hid (rdtext_any v1 ⟨by omega, by omega⟩ HP.swap hs hn2)
    have hx4 := Lib.hid hx3
    clear hx2 hx3
    go_wp2_with fail
    refine HK.out.mono ?_
    rintro e0 w4 ⟨rfl, rfl⟩
    go_wp2_with fail
    refine HK.out.mono ?_
    rintro e0 w4 ⟨rfl, rfl⟩
    clear HK hx hxb
    have c0 := HP.cells
    go_wp2_with fail
    refine HX.out.mono ?_
    rintro e0 w5 ⟨_, rfl, rfl, H3⟩
    clear HX HP H c0
    have H := H3.swap
    clear H3
    by_cases ht : txOk s (8 * (q + 4)) v1
    case neg =>
      have ht2 := ht
      unfold txOk at ht2
      rw [nbytes_8] at ht2
      have hGr2 : Hid (G = .ran) := Lib.hid (by rw [hGr.out, if_neg (by omega)])
      rw [decide_eq_false ht]
      simp only [txN, if_neg ht] at H
      clear hGr ht ht2
      go_wp2_with (refine wpList_store_bool rfl _ _ rfl rfl H rfl (by kernel_rfl) (by simp) ?_; clear H; intro w6 H)
      go_end0
      exact ⟨_, rfl, out, _, -1, hn2, ho, by rw [hGr2.out]; rfl, fun _ => rfl, (Own.unprt (e := -1) H).front 1 rfl⟩
    have ht2 := ht
    unfold txOk at ht2
    rw [nbytes_8] at ht2
    obtain ⟨k, rfl⟩ : ∃ k : Nat, v1 = k := ⟨v1.toNat, by omega⟩
    rw [decide_eq_true ht]
    simp only [txN, txV, if_pos ht, nbytes_8, Int.toNat_natCast] at H ⊢
    have hGr2 : Hid (G = if most - out.length < (k : Int) then .bad 12 else .ok (out ++ byteNums (s.extract (q + 4) (q + 4 + k))) (8 * (q + 4 + k))) := Lib.hid (by
      rw [hGr.out, if_pos (by omega)]
      simp only [Int.toNat_natCast]
      rw [bytesAt_text (by omega), show 8 * (q + 4) + 8 * k = 8 * (q + 4 + k) by omega])
    have hts : Hid ((s.extract (q + 4) (q + 4 + k)).size = k) := Lib.hid (by rw [ByteArray.size_extract]; omega)
    obtain ⟨t, htt⟩ : ∃ t, Hid (s.extract (q + 4) (q + 4 + k) = t) := ⟨_, rfl⟩
    rw [htt.out] at hts hGr2
    rw [htt.out]
    have hn3 : 8 * (q + 4 + k) ≤ 8 * s.size := by omega
    clear hGr ht ht2 htt
    obtain ⟨a, c, h1, h2, HR⟩ := (H.front 2 rfl).str
    clear H
    obtain ⟨N, hN⟩ : ∃ N, Hid (out.length = N) := ⟨_, rfl⟩
    rw [hN.out] at HR h1 ho hGr2
    have hw : IntKind.i64.wrap (most - (N : Int)) = most - N := IntWalk.i64_in _ ⟨by omega, by omega⟩
    by_cases hlt : most - (N : Int) < k
    · have hGr3 := hGr2.out
      rw [if_pos hlt] at hGr3
      replace hGr3 := Lib.hid hGr3
      clear hGr2
      go_upto_region 9 with (fail)
      refine wp_region_calm (fun w1 => Own w0 w1 (blk gr (.cells #[.string buf, .int .i64 bit, .int .i64 used, .slice a N c, .int .i64 most, .int .i64 told, .bool inside, .bool last, lit, dist, .int .i64 e, .bool done] 40) :: slc 5 1 (.slice a N c) N (bcells out) :: blk g (.cells #[.pointer (some ⟨rg, 0, none⟩), .bool false, .int .i64 0] 45) :: Rdr rg s (8 * (q + 4 + k)) :: ps)) 12 (by kernel_rfl) (by kernel_rfl) HR.drew ?_
      simp only [List.take_succ_cons, List.take_zero, List.drop_succ_cons, List.drop_zero]
      repeat
        first
        | (refine calm_value (v := ?_) (by decide) rfl (fun σ w1 hS => ?_) ?_
           rotate_left
           · have c0 := hS.cells
             first | (go_simp; rfl) | rfl
           simp only [Act.put, List.setIfInBounds_toArray, List.set_cons_zero, List.set_cons_succ])
        | (refine calm_skip (by decide) rfl ?_
           simp only [Act.put, List.setIfInBounds_toArray, List.set_cons_zero, List.set_cons_succ])
      refine calm_nil ?_
      intro wd HD
      clear HR
      have H := (HD.front 2 rfl)
      clear HD
      go_wp2_with (refine wpList_store_int rfl _ _ rfl rfl H rfl (by kernel_rfl) (by simp) ?_; clear H; intro w6 H)
      go_end0
      have H5 : Own w0 w6 (Prt g rg s (8 * (q + 4 + k)) 12 :: StR gr ⟨buf, bit, used, out, most, told, inside, last, lit, dist, e, done⟩ :: ps) := Own.unprt (e := 12) (((((H.front 1 rfl).front 2 rfl).swap.unstr hN.out.symm).front 2 rfl).front 2 rfl)
      exact ⟨_, rfl, out, _, 12, by omega, by rw [hN.out]; exact ho, by rw [hGr3.out]; rfl, fun _ => rfl, H5.front 1 rfl⟩
    · have hGr3 := hGr2.out
      rw [if_neg hlt] at hGr3
      replace hGr3 := Lib.hid hGr3
      clear hGr2
      go_upto_region 9 with (fail)
      refine wp_region_calm (fun w1 => Own w0 w1 (blk gr (.cells #[.string buf, .int .i64 bit, .int .i64 used, .slice a N c, .int .i64 most, .int .i64 told, .bool inside, .bool last, lit, dist, .int .i64 e, .bool done] 40) :: slc 5 1 (.slice a N c) N (bcells out) :: blk g (.cells #[.pointer (some ⟨rg, 0, none⟩), .bool false, .int .i64 0] 45) :: Rdr rg s (8 * (q + 4 + k)) :: ps)) 12 (by kernel_rfl) (by kernel_rfl) HR.drew ?_
      simp only [List.take_succ_cons, List.take_zero, List.drop_succ_cons, List.drop_zero]
      repeat
        first
        | (refine calm_value (v := ?_) (by decide) rfl (fun σ w1 hS => ?_) ?_
           rotate_left
           · have c0 := hS.cells
             first | (go_simp; rfl) | rfl
           simp only [Act.put, List.setIfInBounds_toArray, List.set_cons_zero, List.set_cons_succ])
        | (refine calm_skip (by decide) rfl ?_
           simp only [Act.put, List.setIfInBounds_toArray, List.set_cons_zero, List.set_cons_succ])
      refine calm_nil ?_
      intro wd HD
      clear HR
      have H := HD
      clear HD
      have c0 := H.cells
      have hsz : N + t.size ≤ 140737488355328 := by have := hts.out; omega
      go_wp2_with (first
        | (at_builtin; refine wpList_append_str rfl _ _ rfl Try.underlying37 Try.underlying9 u8Info rfl rfl H.swap rfl hsz ?_; clear H c0; intro v' w' H; replace H := H.swap; obtain ⟨a', c', rfl, h1', h2'⟩ := (H.front 1 rfl).rd.shape)
        | (refine wpList_store_slice rfl _ _ rfl rfl H rfl (by kernel_rfl) (by simp) ?_; clear H; intro w2 H))
      go_end0
      have hlen : (out ++ byteNums t).length = N + t.size := by rw [List.length_append, hN.out, byteNums_length]
      have hbc : bcells (out ++ byteNums t) = bcells out ++ byteCells t := by rw [byteCells_nums]; simp [bcells, u8s]
      refine ⟨_, rfl, out ++ byteNums t, 8 * (q + 4 + k), hn3, by rw [hlen, hts.out]; omega, 0, by rw [hGr3.out]; exact ⟨rfl, rfl, rfl⟩, fun h => absurd rfl h, ?_⟩
      rw [← hbc] at H
      have H5 := H.unstr hlen.symm
      exact (Own.unprt (e := 0) ((H5.front 1 rfl).front 2 rfl |>.swap)).front 1 rfl
end Go.Proofs.Ytljejkdkjnbmhaa
/- stream: the walk of head. -/
namespace Go.Proofs.Ytljejkdkjnbmhaa
open Go.RowKit

/-- The tables of the block it is in. -/
def TabP (lit dist : Value) : Option (List Int × List Int) → Piece
  | none => fact True
  | some t => ex fun a => ex fun b => star (fact (lit = .pointer (some ⟨a, 0, none⟩) ∧ dist = .pointer (some ⟨b, 0, none⟩) ∧ TabOk t.1 ∧ TabOk t.2)) (star (Tbl a t.1) (Tbl b t.2))
theorem tabp_none {w0 w : World} {ps : List Piece} {lit dist : Value} (H : Own w0 w ps) : Own w0 w (TabP lit dist none :: ps) := H.unfact trivial
theorem tabp_some {w0 w : World} {ps : List Piece} {a b : Nat} {t : List Int × List Int} (h1 : TabOk t.1) (h2 : TabOk t.2) (H : Own w0 w (Tbl a t.1 :: Tbl b t.2 :: ps)) : Own w0 w (TabP (.pointer (some ⟨a, 0, none⟩)) (.pointer (some ⟨b, 0, none⟩)) (some t) :: ps) := by
  refine Own.unex (f := fun a' => ex fun b' => star (fact (Value.pointer (some ⟨a, 0, none⟩) = .pointer (some ⟨a', 0, none⟩) ∧ Value.pointer (some ⟨b, 0, none⟩) = .pointer (some ⟨b', 0, none⟩) ∧ TabOk t.1 ∧ TabOk t.2)) (star (Tbl a' t.1) (Tbl b' t.2))) a (Own.unex (f := fun b' => star (fact (Value.pointer (some ⟨a, 0, none⟩) = .pointer (some ⟨a, 0, none⟩) ∧ Value.pointer (some ⟨b, 0, none⟩) = .pointer (some ⟨b', 0, none⟩) ∧ TabOk t.1 ∧ TabOk t.2)) (star (Tbl a t.1) (Tbl b' t.2))) b ?_)
  exact ((H.unstar).unfact ⟨rfl, rfl, h1, h2⟩).unstar
theorem Own.tabp {w0 w : World} {ps : List Piece} {lit dist : Value} {t : List Int × List Int} (H : Own w0 w (TabP lit dist (some t) :: ps)) : ∃ a b, lit = .pointer (some ⟨a, 0, none⟩) ∧ dist = .pointer (some ⟨b, 0, none⟩) ∧ TabOk t.1 ∧ TabOk t.2 ∧ Own w0 w (Tbl a t.1 :: Tbl b t.2 :: ps) := by
  obtain ⟨a, H⟩ := H.ex
  obtain ⟨b, H⟩ := H.ex
  obtain ⟨⟨h1, h2, h3, h4⟩, H⟩ := H.star.fact
  exact ⟨a, b, h1, h2, h3, h4, H.star⟩
/-- What a step leaves. -/
def StepPost (w0 : World) (ps : List Piece) (gr g rg : Nat) (s : ByteArray) (T0 : Piece) (r : Rec) (G : Got Inf) (w' : World) : Prop :=
  ∃ n' e', n' ≤ 8 * s.size ∧ (e' ≠ 0 → GotS G Inf.init 0 e' ∧ Own w0 w' (StR gr r :: T0 :: Prt g rg s n' e' :: ps)) ∧
    (e' = 0 → ∃ st' lit' dist', G = .ok st' n' ∧ (st'.out.length : Int) ≤ r.most ∧ Own w0 w' (StR gr { r with out := st'.out, inside := st'.tab.isSome, last := st'.last, lit := lit', dist := dist' } :: TabP lit' dist' st'.tab :: Prt g rg s n' 0 :: ps))
set_option maxRecDepth 100000 in
set_option maxHeartbeats 6400000 in
theorem sthead_any {w0 w : World} {ps : List Piece} {gr g rg n : Nat} {s : ByteArray} {buf : ByteArray} {bit used most told e : Int} {out : List Int} {inside last done : Bool} {lit dist : Value} (hm : 0 ≤ most ∧ most ≤ 1000000) (ho : (out.length : Int) ≤ most) (hs : s.size ≤ 1000000) (hn : n ≤ 8 * s.size)
    (H : Own w0 w (StR gr ⟨buf, bit, used, out, most, told, inside, last, lit, dist, e, done⟩ :: Prt g rg s n 0 :: ps)) :
    Calls Try.prog 16 #[.pointer (some ⟨gr, 0, none⟩), .pointer (some ⟨g, 0, none⟩)] w (Ret fun _ w' => StepPost w0 ps gr g rg s (fact True) ⟨buf, bit, used, out, most, told, inside, last, lit, dist, e, done⟩ (headG (textBits s) most ⟨n, out, none, last⟩) w') := by
  obtain ⟨B, hB⟩ : ∃ B, Hid (textBits s = B) := ⟨_, rfl⟩
  obtain ⟨G, hG⟩ : ∃ G, Hid (headG B most ⟨n, out, none, last⟩ = G) := ⟨_, rfl⟩
  rw [hB.out, hG.out]
  have HT := Lib.hid (ptake_any 1 (by omega) (H.front 1 rfl) hs hn)
  rw [hB.out] at HT
  go_enter Try.func16, Try.ntmps16
  go_wp2_with fail
  refine HT.out.mono ?_
  rintro e0 w1 ⟨_, rfl, a, n1, e1, rfl, -, -, hn1, -, -, hg1, H1⟩
  replace hg1 := Lib.hid (hg1 trivial)
  clear HT H
  have HT := Lib.hid (ptake_any 2 (by omega) H1 hs hn1)
  rw [hB.out] at HT
  go_wp2_with fail
  refine HT.out.mono ?_
  rintro e0 w2 ⟨_, rfl, k, n2, e2, rfl, -, -, hn2, he2, -, hg2, H2⟩
  have hts := Lib.hid (headS_takes (most := most) (out := out) (lst := last) hg1.out he2 hg2)
  rw [hG.out] at hts
  clear HT H1 hg1 he2 hg2
  have HK := Lib.hid (ptok_any H2)
  by_cases h2 : e2 = 0
  case neg =>
    have hbad := Lib.hid (hts.out.1 h2)
    rw [decide_eq_false h2] at HK
    replace h2 := Lib.hid h2
    clear hts
    go_wp2_with fail
    refine HK.out.mono ?_
    rintro e0 w3 ⟨rfl, rfl⟩
    go_wp2
    refine bodyPost_ret (results_none rfl _ _ _) rfl ?_
    exact ⟨_, rfl, n2, e2, hn2, fun _ => ⟨hbad.out, (H2.unfact trivial).front 2 rfl⟩, fun h => absurd h h2.out⟩
  subst h2
  rw [decide_eq_true rfl] at HK
  obtain ⟨ha, hk, -, hGe⟩ := hts.out.2 rfl
  replace hGe := Lib.hid hGe
  clear hts
  have hac : a = 0 ∧ decide (a = 1) = false ∨ a = 1 ∧ decide (a = 1) = true := by
    obtain h | h : a = 0 ∨ a = 1 := by omega
    · subst h; exact .inl ⟨rfl, rfl⟩
    · subst h; exact .inr ⟨rfl, rfl⟩
  obtain ⟨la, hla⟩ : ∃ la, decide (a = 1) = la := ⟨_, rfl⟩
  rw [hla] at hac hGe
  clear hla ha
  have hkc : k = 0 ∨ k = 1 ∨ k = 2 ∨ k = 3 := by omega
  clear hk
  replace H2 : Own w0 w2 (StR gr ⟨buf, bit, used, out, most, told, inside, last, lit, dist, e, done⟩ :: Prt g rg s n2 0 :: ps) := H2.front 1 rfl
  rcases hkc with rfl | rfl | rfl | rfl
  · have hGe2 := hGe.out
    rw [if_pos rfl] at hGe2
    replace hGe := Lib.hid hGe2
    clear hGe2
    have HS := Lib.hid (ststored_any hm ho hs hn2 H2)
    rw [hB.out] at HS
    rcases hac with ⟨rfl, rfl⟩ | ⟨rfl, rfl⟩
    all_goals
      go_wp2_with fail
      refine HK.out.mono ?_
      rintro e0 w3 ⟨rfl, rfl⟩
      clear HK
      go_wp2_with fail
      refine HS.out.mono ?_
      rintro e0 w4 ⟨_, rfl, out', n3, e3, hn3, ho3, hg3, ho4, H3⟩
      replace ho4 := Lib.hid ho4
      replace hg3 := Lib.hid hg3
      clear HS H2
      have HK := Lib.hid (ptok_any (H3.front 1 rfl))
      by_cases h3 : e3 = 0
      · subst h3
        rw [decide_eq_true rfl] at HK
        have hfin := Lib.hid (hGe.out.trans (by rw [gotS_ok hg3.out stored_nbad, Got.bind_ok]))
        clear hGe hg3
        obtain ⟨sa, sc, h1, h2, HR⟩ := H3.str
        obtain ⟨N, hN⟩ : ∃ N, Hid (out'.length = N) := ⟨_, rfl⟩
        rw [hN.out] at HR
        clear H3
        go_wp2_with fail
        refine HK.out.mono ?_
        rintro e0 w5 ⟨rfl, rfl⟩
        clear HK
        go_wp2_with (first
          | (refine wpList_store_bool rfl _ _ rfl rfl HR rfl (by kernel_rfl) (by simp) ?_; clear HR; intro w6 HR)
          | (refine wpList_store_ptr rfl _ _ rfl rfl HR rfl (by kernel_rfl) (by simp) ?_; clear HR; intro w6 HR))
        go_end0
        exact ⟨_, rfl, n3, 0, hn3, fun h => absurd rfl h, fun _ => ⟨_, .pointer none, .pointer none, hfin.out, ho3, (tabp_none (HR.unstr hN.out.symm)).front 1 rfl⟩⟩
      · have hbad : Hid (GotS G Inf.init 0 e3) := Lib.hid (by rw [hGe.out]; exact gotS_bind hg3.out h3)
        rw [decide_eq_false h3] at HK
        replace h3 := Lib.hid h3
        go_wp2_with fail
        refine HK.out.mono ?_
        rintro e0 w5 ⟨rfl, rfl⟩
        go_wp2
        go_end0
        have ho5 := ho4.out h3.out
        subst ho5
        exact ⟨_, rfl, n3, e3, hn3, fun _ => ⟨hbad.out, (tabp_none (lit := lit) (dist := dist) H3).front 1 rfl⟩, fun h => absurd h h3.out⟩
  · have hGe2 := hGe.out
    rw [if_neg (by decide), if_pos rfl, fixTab_eq] at hGe2
    replace hGe := Lib.hid hGe2
    clear hGe2
    have HF := Lib.hid (stfixed_any w2)
    rcases hac with ⟨rfl, rfl⟩ | ⟨rfl, rfl⟩
    all_goals
      go_wp2_with fail
      refine HK.out.mono ?_
      rintro e0 w3 ⟨rfl, rfl⟩
      go_wp2_with fail
      refine HF.out.mono ?_
      rintro e0 w4 ⟨_, rfl, ta, tb, rfl, HX⟩
      replace H2 := H2.join HX
      have H3 : Own w0 w4 (StR gr ⟨buf, bit, used, out, most, told, inside, last, lit, dist, e, done⟩ :: TabP (.pointer (some ⟨ta, 0, none⟩)) (.pointer (some ⟨tb, 0, none⟩)) (some (fixL, fixD)) :: Prt g rg s n2 0 :: ps) := by
        have h : Own w0 w4 (Tbl ta fixL :: Tbl tb fixD :: StR gr ⟨buf, bit, used, out, most, told, inside, last, lit, dist, e, done⟩ :: Prt g rg s n2 0 :: ps) := H2.front 1 rfl
        exact (tabp_some (t := (fixL, fixD)) fix_ok.1 fix_ok.2 h).front 1 rfl
      have HK2 := Lib.hid (ptok_any (H3.front 2 rfl))
      rw [decide_eq_true rfl] at HK2
      clear HF HX HK H2
      obtain ⟨sa, sc, h1, h2, HR⟩ := H3.str
      obtain ⟨N, hN⟩ : ∃ N, Hid (out.length = N) := ⟨_, rfl⟩
      rw [hN.out] at HR
      rw [hN.out] at ho
      clear H3
      go_wp2_with fail
      refine HK2.out.mono ?_
      rintro e0 w5 ⟨rfl, rfl⟩
      clear HK2
      go_wp2_with (first
        | (refine wpList_store_bool rfl _ _ rfl rfl HR rfl (by kernel_rfl) (by simp) ?_; clear HR; intro w6 HR)
        | (refine wpList_store_ptr rfl _ _ rfl rfl HR rfl (by kernel_rfl) (by simp) ?_; clear HR; intro w6 HR))
      go_end0
      exact ⟨_, rfl, n2, 0, hn2, fun h => absurd rfl h, fun _ => ⟨_, _, _, hGe.out, by simp only; rw [hN.out]; exact ho, HR.unstr hN.out.symm⟩⟩
  · have hGe2 := hGe.out
    rw [if_neg (by decide), if_neg (by decide), if_pos rfl] at hGe2
    replace hGe := Lib.hid hGe2
    clear hGe2
    have HD := Lib.hid (ptcodes_any hs hn2 (H2.front 1 rfl))
    rw [hB.out] at HD
    rcases hac with ⟨rfl, rfl⟩ | ⟨rfl, rfl⟩
    all_goals
      go_wp2_with fail
      refine HK.out.mono ?_
      rintro e0 w3 ⟨rfl, rfl⟩
      clear HK
      go_wp2_with fail
      refine HD.out.mono ?_
      rintro e0 w4 ⟨_, rfl, ao, bo, T, n4, e4, rfl, hn4, hg4, hd1, hd2⟩
      replace hd1 := Lib.hid hd1
      replace hd2 := Lib.hid hd2
      replace hg4 := Lib.hid hg4
      clear HD H2
      by_cases h4 : e4 = 0
      · subst h4
        obtain ⟨hT1, hT2, ta, tb, rfl, rfl, HX⟩ := hd1.out rfl
        have H3 : Own w0 w4 (StR gr ⟨buf, bit, used, out, most, told, inside, last, lit, dist, e, done⟩ :: TabP (.pointer (some ⟨ta, 0, none⟩)) (.pointer (some ⟨tb, 0, none⟩)) (some T) :: Prt g rg s n4 0 :: ps) := by
          have h : Own w0 w4 (Tbl ta T.1 :: Tbl tb T.2 :: StR gr ⟨buf, bit, used, out, most, told, inside, last, lit, dist, e, done⟩ :: Prt g rg s n4 0 :: ps) := ((HX.front 3 rfl).front 3 rfl).front 3 rfl
          exact (tabp_some hT1 hT2 h).front 1 rfl
        have hfin := Lib.hid (hGe.out.trans (by rw [gotS_ok hg4.out codes_nbad, Got.bind_ok]))
        have HK2 := Lib.hid (ptok_any (H3.front 2 rfl))
        rw [decide_eq_true rfl] at HK2
        clear HX hd1 hd2 hg4 hGe hT1 hT2
        obtain ⟨sa, sc, h1, h2, HR⟩ := H3.str
        obtain ⟨N, hN⟩ : ∃ N, Hid (out.length = N) := ⟨_, rfl⟩
        rw [hN.out] at HR
        rw [hN.out] at ho
        clear H3
        go_wp2_with fail
        refine HK2.out.mono ?_
        rintro e0 w5 ⟨rfl, rfl⟩
        clear HK2
        go_wp2_with (first
          | (refine wpList_store_bool rfl _ _ rfl rfl HR rfl (by kernel_rfl) (by simp) ?_; clear HR; intro w6 HR)
          | (refine wpList_store_ptr rfl _ _ rfl rfl HR rfl (by kernel_rfl) (by simp) ?_; clear HR; intro w6 HR))
        go_end0
        exact ⟨_, rfl, n4, 0, hn4, fun h => absurd rfl h, fun _ => ⟨_, _, _, hfin.out, by simp only; rw [hN.out]; exact ho, HR.unstr hN.out.symm⟩⟩
      · have hbad : Hid (GotS G Inf.init 0 e4) := Lib.hid (by rw [hGe.out]; exact gotS_bind hg4.out h4)
        have H3 := hd2.out h4
        have HK2 := Lib.hid (ptok_any H3)
        rw [decide_eq_false h4] at HK2
        replace h4 := Lib.hid h4
        clear hd1 hd2 hg4
        go_wp2_with fail
        refine HK2.out.mono ?_
        rintro e0 w5 ⟨rfl, rfl⟩
        go_wp2
        go_end0
        exact ⟨_, rfl, n4, e4, hn4, fun _ => ⟨hbad.out, ((H3.front 1 rfl).unfact trivial).front 1 rfl⟩, fun h => absurd h h4.out⟩
  · have hGe2 := hGe.out
    rw [if_neg (by decide), if_neg (by decide), if_neg (by decide)] at hGe2
    have hbad : Hid (GotS G Inf.init 0 2) := Lib.hid (by rw [hGe2]; rfl)
    clear hGe2 hGe hac
    have HH := Lib.hid (ptfail_any (H2.front 1 rfl))
    rw [if_pos rfl] at HH
    go_wp2_with fail
    refine HK.out.mono ?_
    rintro e0 w3 ⟨rfl, rfl⟩
    clear HK
    go_wp2_with fail
    refine HH.out.mono ?_
    rintro e0 w4 ⟨_, rfl, H3⟩
    have HK2 := Lib.hid (ptok_any H3)
    rw [decide_eq_false (by decide)] at HK2
    clear HH H2
    go_wp2_with fail
    refine HK2.out.mono ?_
    rintro e0 w5 ⟨rfl, rfl⟩
    go_wp2
    go_end0
    exact ⟨_, rfl, n2, 2, hn2, fun _ => ⟨hbad.out, ((H3.front 1 rfl).unfact trivial).front 1 rfl⟩, fun h => absurd h (by decide)⟩
end Go.Proofs.Ytljejkdkjnbmhaa
/- stream: the walk of token. -/
namespace Go.Proofs.Ytljejkdkjnbmhaa
open Go.RowKit

/-- What a token makes of where it stands. -/
def tokI (bs : List Bool) (most : Int) (t : List Int × List Int) (out : List Int) (n : Nat) (last : Bool) : Got Inf :=
  (tokG bs most t.1 t.2 out n).bind fun r n1 => match r with
    | none => .ok ⟨n1, out, none, last⟩ n1
    | some o => .ok ⟨n1, o, some t, last⟩ n1
theorem tokI_bad {bs : List Bool} {most : Int} {L D out : List Int} {n m : Nat} {last : Bool} {e : Int} (h : GotS (tokG bs most L D out n) none m e) (he : e ≠ 0) : GotS (tokI bs most (L, D) out n last) Inf.init 0 e := gotS_bind h he
theorem tokI_none {bs : List Bool} {most : Int} {L D out : List Int} {n m : Nat} {last : Bool} (h : GotS (tokG bs most L D out n) none m 0) : tokI bs most (L, D) out n last = .ok ⟨m, out, none, last⟩ m := by
  unfold tokI
  rw [gotS_ok h tok_nbad, Got.bind_ok]
theorem tokI_some {bs : List Bool} {most : Int} {L D out o : List Int} {n m : Nat} {last : Bool} (h : GotS (tokG bs most L D out n) (some o) m 0) : tokI bs most (L, D) out n last = .ok ⟨m, o, some (L, D), last⟩ m := by
  unfold tokI
  rw [gotS_ok h tok_nbad, Got.bind_ok]
/-- What is known ahead of the limit's test. -/
def TokRel (G : Got (Option (List Int))) (most : Int) (M : Nat) (out : List Int) (v len d : Int) (n5 : Nat) (e6 : Int) : Prop :=
  (e6 ≠ 0 → GotS G none 0 e6) ∧ (e6 = 0 → (most - (M : Int) < len → GotS G none 0 12) ∧ (¬ most - (M : Int) < len → (v < 256 → len = 1 ∧ GotS G (some (out ++ [v])) n5 0) ∧ (256 < v → 1 ≤ d ∧ d ≤ M ∧ 1 ≤ len ∧ GotS G (some (copyN d.toNat out len.toNat)) n5 0)))

set_option maxRecDepth 100000 in
set_option maxHeartbeats 6400000 in
theorem sttoken_any {w0 w : World} {ps : List Piece} {gr g rg n : Nat} {s : ByteArray} {buf : ByteArray} {bit used most told e : Int} {out L D : List Int} {last done : Bool} {lit dist : Value} (hm : 0 ≤ most ∧ most ≤ 1000000) (ho : (out.length : Int) ≤ most) (hs : s.size ≤ 1000000) (hn : n ≤ 8 * s.size)
    (H : Own w0 w (StR gr ⟨buf, bit, used, out, most, told, true, last, lit, dist, e, done⟩ :: TabP lit dist (some (L, D)) :: Prt g rg s n 0 :: ps)) :
    Calls Try.prog 15 #[.pointer (some ⟨gr, 0, none⟩), .pointer (some ⟨g, 0, none⟩)] w (Ret fun _ w' => StepPost w0 ps gr g rg s (TabP lit dist (some (L, D))) ⟨buf, bit, used, out, most, told, true, last, lit, dist, e, done⟩ (tokI (textBits s) most (L, D) out n last) w') := by
  obtain ⟨hm0, hm1⟩ := hm
  obtain ⟨B, hB⟩ : ∃ B, Hid (textBits s = B) := ⟨_, rfl⟩
  obtain ⟨tl, td, rfl, rfl, hL, hD, H⟩ := (H.front 1 rfl).tabp
  replace H : Own w0 w (StR gr ⟨buf, bit, used, out, most, told, true, last, .pointer (some ⟨tl, 0, none⟩), .pointer (some ⟨td, 0, none⟩), e, done⟩ :: Prt g rg s n 0 :: Tbl tl L :: Tbl td D :: ps) := (H.front 3 rfl).front 3 rfl
  replace hL : TabOk L := hL
  replace hD : TabOk D := hD
  -- how it ends
  have bad : Hid (∀ (w' : World) (n' : Nat) (e' : Int), n' ≤ 8 * s.size → e' ≠ 0 → GotS (tokG B most L D out n) none 0 e' → Own w0 w' (StR gr ⟨buf, bit, used, out, most, told, true, last, .pointer (some ⟨tl, 0, none⟩), .pointer (some ⟨td, 0, none⟩), e, done⟩ :: Prt g rg s n' e' :: Tbl tl L :: Tbl td D :: ps) →
      StepPost w0 ps gr g rg s (TabP (.pointer (some ⟨tl, 0, none⟩)) (.pointer (some ⟨td, 0, none⟩)) (some (L, D))) ⟨buf, bit, used, out, most, told, true, last, .pointer (some ⟨tl, 0, none⟩), .pointer (some ⟨td, 0, none⟩), e, done⟩ (tokI B most (L, D) out n last) w') := Lib.hid fun w' n' e' hn' he' hg h =>
    ⟨n', e', hn', fun _ => ⟨tokI_bad hg he', (tabp_some (t := (L, D)) hL hD ((h.front 2 rfl).front 3 rfl |>.front 1 rfl)).front 1 rfl⟩, fun h0 => absurd h0 he'⟩
  have good : Hid (∀ (w' : World) (n' : Nat) (o : List Int), n' ≤ 8 * s.size → (o.length : Int) ≤ most → GotS (tokG B most L D out n) (some o) n' 0 → Own w0 w' (StR gr ⟨buf, bit, used, o, most, told, true, last, .pointer (some ⟨tl, 0, none⟩), .pointer (some ⟨td, 0, none⟩), e, done⟩ :: Prt g rg s n' 0 :: Tbl tl L :: Tbl td D :: ps) →
      StepPost w0 ps gr g rg s (TabP (.pointer (some ⟨tl, 0, none⟩)) (.pointer (some ⟨td, 0, none⟩)) (some (L, D))) ⟨buf, bit, used, out, most, told, true, last, .pointer (some ⟨tl, 0, none⟩), .pointer (some ⟨td, 0, none⟩), e, done⟩ (tokI B most (L, D) out n last) w') := Lib.hid fun w' n' o hn' ho' hg h =>
    ⟨n', 0, hn', fun h0 => absurd rfl h0, fun _ => ⟨_, _, _, tokI_some hg, ho', (tabp_some (t := (L, D)) hL hD ((h.front 2 rfl).front 3 rfl |>.front 1 rfl)).front 1 rfl⟩⟩
  have stop : Hid (∀ (w' : World) (n' : Nat), n' ≤ 8 * s.size → GotS (tokG B most L D out n) none n' 0 → Own w0 w' (StR gr ⟨buf, bit, used, out, most, told, false, last, .pointer (some ⟨tl, 0, none⟩), .pointer (some ⟨td, 0, none⟩), e, done⟩ :: Prt g rg s n' 0 :: Tbl tl L :: Tbl td D :: ps) →
      StepPost w0 ps gr g rg s (TabP (.pointer (some ⟨tl, 0, none⟩)) (.pointer (some ⟨td, 0, none⟩)) (some (L, D))) ⟨buf, bit, used, out, most, told, true, last, .pointer (some ⟨tl, 0, none⟩), .pointer (some ⟨td, 0, none⟩), e, done⟩ (tokI B most (L, D) out n last) w') := Lib.hid fun w' n' hn' hg h =>
    ⟨n', 0, hn', fun h0 => absurd rfl h0, fun _ => ⟨_, _, _, tokI_none hg, ho, (tabp_none ((h.front 2 rfl).drop.front 2 rfl).drop).front 1 rfl⟩⟩
  rw [hB.out]
  obtain ⟨Q, hQ⟩ : ∃ Q : World → Prop, Q = fun w' => StepPost w0 ps gr g rg s (TabP (.pointer (some ⟨tl, 0, none⟩)) (.pointer (some ⟨td, 0, none⟩)) (some (L, D))) ⟨buf, bit, used, out, most, told, true, last, .pointer (some ⟨tl, 0, none⟩), .pointer (some ⟨td, 0, none⟩), e, done⟩ (tokI B most (L, D) out n last) w' := ⟨_, rfl⟩
  have hQ' : Hid (∀ w', StepPost w0 ps gr g rg s (TabP (.pointer (some ⟨tl, 0, none⟩)) (.pointer (some ⟨td, 0, none⟩)) (some (L, D))) ⟨buf, bit, used, out, most, told, true, last, .pointer (some ⟨tl, 0, none⟩), .pointer (some ⟨td, 0, none⟩), e, done⟩ (tokI B most (L, D) out n last) w' = Q w') := Lib.hid fun w' => by rw [hQ]
  clear hQ
  have hgoal : Calls Try.prog 15 #[.pointer (some ⟨gr, 0, none⟩), .pointer (some ⟨g, 0, none⟩)] w (Ret fun _ w' => Q w') := by
    obtain ⟨M, hM⟩ : ∃ M, Hid (out.length = M) := ⟨_, rfl⟩
    rw [hM.out] at ho
    obtain ⟨sa, sc, h1, h2, HR⟩ := H.str
    rw [hM.out] at HR h1
    have c0 := HR.cells
    have HS := Lib.hid (ptsym_any (g := g) (t := tl) hL hs hn (H.front 1 rfl |>.front 2 rfl |>.front 1 rfl))
    clear H
    go_enter Try.func15, Try.ntmps15
    go_wp2_with fail
    refine HS.out.mono ?_
    rintro e0 w1 ⟨_, rfl, v, n2, e2, rfl, hv0, hv1, hn2, -, hg, H1⟩
    rw [hB.out] at hg
    have hts := Lib.hid (tokS_sym (most := most) (D := D) (out := out) (hg rfl))
    clear HS HR hg c0
    have H : Own w0 w1 (StR gr ⟨buf, bit, used, out, most, told, true, last, .pointer (some ⟨tl, 0, none⟩), .pointer (some ⟨td, 0, none⟩), e, done⟩ :: Prt g rg s n2 e2 :: Tbl tl L :: Tbl td D :: ps) := H1.front 2 rfl
    clear H1
    have HK := Lib.hid (ptok_any (H.front 1 rfl))
    by_cases he2 : e2 = 0
    case neg =>
      have hfin := Lib.hid (bad.out w1 n2 e2 hn2 he2 (gotS_any (hts.out.1 he2) he2) H)
      rw [decide_eq_false he2] at HK
      rw [hQ'.out] at hfin
      clear he2 hts bad good stop hQ'
      go_wp2_with fail
      refine HK.out.mono ?_
      rintro e0 w2 ⟨rfl, rfl⟩
      go_wp2
      refine bodyPost_ret (results_none rfl _ _ _) rfl ?_
      exact ⟨_, rfl, hfin.out⟩
    subst he2
    rw [decide_eq_true rfl] at HK
    obtain ⟨sa, sc, h1, h2, HR⟩ := H.str
    rw [hM.out] at HR h1
    by_cases hv : v = 256
    · subst hv
      have hstop := Lib.hid (stop.out · n2 hn2 (hts.out.2.1 rfl rfl))
      clear hts bad good stop
      go_wp2_with fail
      refine HK.out.mono ?_
      rintro e0 w2 ⟨rfl, rfl⟩
      clear HK
      go_wp2_with (refine wpList_store_bool rfl _ _ rfl rfl HR rfl (by kernel_rfl) (by simp) ?_; clear HR; intro w6 HR)
      refine bodyPost_ret (results_none rfl _ _ _) rfl ?_
      have hfin := hstop.out _ (HR.unstr hM.out.symm)
      rw [hQ'.out] at hfin
      exact ⟨_, rfl, hfin⟩
    have hvb : (v == 256) = false := by simp [hv]
    clear stop HR
    obtain ⟨G, hGG⟩ : ∃ G, Hid (tokG B most L D out n = G) := ⟨_, rfl⟩
    rw [hGG.out] at hts bad good
    have hb3 : Hid (∀ (w' : World) (n' : Nat) (e' : Int), n' ≤ 8 * s.size → e' ≠ 0 → GotS G none 0 e' → Own w0 w' (StR gr ⟨buf, bit, used, out, most, told, true, last, .pointer (some ⟨tl, 0, none⟩), .pointer (some ⟨td, 0, none⟩), e, done⟩ :: Prt g rg s n' e' :: Tbl tl L :: Tbl td D :: ps) → Q w') := Lib.hid fun w' n' e' a1 a2 a3 a4 => (hQ'.out w').mp (bad.out w' n' e' a1 a2 a3 a4)
    have hg3 : Hid (∀ (w' : World) (n' : Nat) (o : List Int), n' ≤ 8 * s.size → (o.length : Int) ≤ most → GotS G (some o) n' 0 → Own w0 w' (StR gr ⟨buf, bit, used, o, most, told, true, last, .pointer (some ⟨tl, 0, none⟩), .pointer (some ⟨td, 0, none⟩), e, done⟩ :: Prt g rg s n' 0 :: Tbl tl L :: Tbl td D :: ps) → Q w') := Lib.hid fun w' n' o a1 a2 a3 a4 => (hQ'.out w').mp (good.out w' n' o a1 a2 a3 a4)
    clear bad good hQ' hGG
    go_wp2_with fail
    refine HK.out.mono ?_
    rintro e0 w2 ⟨rfl, rfl⟩
    clear HK
    go_upto_if 22 with (fail)
    obtain ⟨bx, hbx⟩ : ∃ b, Hid (decide ((256 : Int) < v) = b) := ⟨_, rfl⟩
    rw [hbx.out]
    go_cut [5, 6] (fun s5 s6 wx => ∃ (len d : Int) (n5 : Nat) (e6 : Int), s5 = .int .i64 len ∧ s6 = .int .i64 d ∧ n5 ≤ 8 * s.size ∧ 0 ≤ len ∧ len ≤ 70000 ∧ 0 ≤ d ∧ d ≤ 100000 ∧
      Hid (TokRel G most M out v len d n5 e6) ∧
      Own w0 wx (StR gr ⟨buf, bit, used, out, most, told, true, last, .pointer (some ⟨tl, 0, none⟩), .pointer (some ⟨td, 0, none⟩), e, done⟩ :: Prt g rg s n5 e6 :: Tbl tl L :: Tbl td D :: ps))
    case first =>
      cases bx
      case false =>
        have hv2 : v < 256 := by have := hbx.out; simp at this; omega
        have hrt := hts.out.2.2.1 trivial hv2
        rw [hM.out] at hrt
        have hpl : Hid (TokRel G most M out v 1 0 n2 0) := Lib.hid ⟨fun h => absurd rfl h, fun _ => ⟨hrt.1, fun h => ⟨fun _ => ⟨rfl, hrt.2 (by omega)⟩, fun h' => by omega⟩⟩⟩
        clear hrt hts
        go_wp2
        go_meet
        exact ⟨1, 0, n2, 0, rfl, rfl, hn2, by omega, by omega, by omega, by omega, hpl, H⟩
      case true =>
        have hv3 : 256 < v := by have := hbx.out; simp at this; omega
        have hG := Lib.hid (hts.out.2.2.2 trivial hv3)
        clear hts
        obtain ⟨c, rfl⟩ : ∃ c : Nat, v = c := ⟨v.toNat, by omega⟩
        have HT := Lib.hid (ptlong_any c (by omega) (by omega) hs hn2 (H.front 1 rfl))
        rw [hB.out] at HT
        go_wp2_with fail
        refine HT.out.mono ?_
        rintro e0 w3 ⟨_, rfl, len, n3, e3, rfl, hl0, hl1, hn3, -, hl2, hg3', H2⟩
        replace hl2 := Lib.hid hl2
        replace hg3' := Lib.hid (hg3' trivial)
        clear HT H
        replace H2 : Own w0 w3 (StR gr ⟨buf, bit, used, out, most, told, true, last, .pointer (some ⟨tl, 0, none⟩), .pointer (some ⟨td, 0, none⟩), e, done⟩ :: Prt g rg s n3 e3 :: Tbl tl L :: Tbl td D :: ps) := H2.front 1 rfl
        have HS := Lib.hid (ptsym_any (g := g) (t := td) hD hs hn3 ((H2.front 3 rfl).front 2 rfl))
        obtain ⟨sa, sc, h1, h2, HR⟩ := H2.str
        have c0 := HR.cells
        clear H2
        go_wp2_with fail
        refine HS.out.mono ?_
        rintro e0 w4 ⟨_, rfl, k, n4, e4, rfl, hk0, hk1, hn4, he4, hg4, H3⟩
        rw [hB.out] at hg4
        replace hg4 := Lib.hid hg4
        replace he4 := Lib.hid he4
        obtain ⟨k, rfl⟩ : ∃ j : Nat, k = j := ⟨k.toNat, by omega⟩
        clear HS HR c0
        have HT := Lib.hid (ptfar_any k (by omega) hs hn4 H3)
        rw [hB.out] at HT
        go_wp2_with fail
        refine HT.out.mono ?_
        rintro e0 w5 ⟨_, rfl, d, n5, e5, rfl, hd0, hd1, hn5, he5, hd2, hg5, H4⟩
        have hfar := Lib.hid (tokS_far hG.out hg3'.out (fun h => (he4.out h).1) hg4.out he5 hg5)
        rw [hM.out] at hfar
        have hl3 : Hid (e5 = 0 → 1 ≤ len) := Lib.hid (fun h5 => by
          by_cases h4 : e4 = 0
          · by_cases h3 : e3 = 0
            · exact hl2.out h3
            · exact absurd ((he4.out h3).1.symm.trans h4) h3
          · exact absurd ((he5 h4).symm.trans h5) h4)
        clear hl2
        replace hd2 := Lib.hid hd2
        clear HT H3 hg3' hg4 he4 he5 hg5 hG
        have H : Own w0 w5 (StR gr ⟨buf, bit, used, out, most, told, true, last, .pointer (some ⟨tl, 0, none⟩), .pointer (some ⟨td, 0, none⟩), e, done⟩ :: Prt g rg s n5 e5 :: Tbl tl L :: Tbl td D :: ps) := ((H4.front 1 rfl).front 3 rfl).front 2 rfl |>.front 3 rfl
        clear H4
        have HF := Lib.hid (ptfail_any (H.front 1 rfl))
        obtain ⟨sa, sc, h1, h2, HR⟩ := H.str
        rw [hM.out] at HR
        have c0 := HR.cells
        by_cases hMd : (M : Int) < d
        · obtain ⟨e6, he6⟩ : ∃ e6, Hid ((if e5 = 0 then 2 else e5) = e6) := ⟨_, rfl⟩
          rw [he6.out] at HF
          have hpl : Hid (TokRel G most M out c len d n5 e6) := Lib.hid (by
            have h6 := he6.out
            by_cases h5 : e5 = 0
            · rw [if_pos h5] at h6
              subst h6
              exact ⟨fun _ => (hfar.out.2 h5).1 hMd, fun h => absurd h (by decide)⟩
            · rw [if_neg h5] at h6
              subst h6
              exact ⟨fun _ => hfar.out.1 h5, fun h => absurd h h5⟩)
          clear hfar hl3 hd2 H HR
          go_wp2_with fail
          refine HF.out.mono ?_
          rintro e0 w6 ⟨_, rfl, H5⟩
          clear HF c0
          go_wp2
          go_meet
          exact ⟨len, d, n5, e6, rfl, rfl, hn5, hl0, hl1, hd0, hd1, hpl, H5.front 1 rfl⟩
        · have hpl : Hid (TokRel G most M out c len d n5 e5) := Lib.hid
            ⟨hfar.out.1, fun h5 => ⟨((hfar.out.2 h5).2 hMd).1, fun h => ⟨fun h' => by omega, fun _ => ⟨hd2.out h5, by omega, hl3.out h5, ((hfar.out.2 h5).2 hMd).2 h⟩⟩⟩⟩
          clear hfar hl3 hd2 HF HR
          go_wp2
          go_meet
          exact ⟨len, d, n5, e5, rfl, rfl, hn5, hl0, hl1, hd0, hd1, hpl, H⟩
    case rest =>
    clear H hts hbx
    obtain ⟨len, d, n5, e6, rfl, rfl, hn5, hl0, hl1, hd0, hd1, hpl, H⟩ := hcut
    by_cases he6 : e6 = 0
    case neg =>
      have hfin : Hid (∀ w', Own w0 w' (StR gr ⟨buf, bit, used, out, most, told, true, last, .pointer (some ⟨tl, 0, none⟩), .pointer (some ⟨td, 0, none⟩), e, done⟩ :: Prt g rg s n5 e6 :: Tbl tl L :: Tbl td D :: ps) → Q w') := Lib.hid fun w' h => hb3.out w' n5 e6 hn5 he6 (hpl.out.1 he6) h
      replace he6 := Lib.hid he6
      clear hb3 hg3 hpl
      obtain ⟨sa, sc, h1, h2, HR⟩ := H.str
      rw [hM.out] at HR h1
      clear H
      go_upto_region 10 with (fail)
      refine wp_region_calm (fun w1 => Own w0 w1 (blk gr (.cells #[.string buf, .int .i64 bit, .int .i64 used, .slice sa M sc, .int .i64 most, .int .i64 told, .bool true, .bool last, .pointer (some ⟨tl, 0, none⟩), .pointer (some ⟨td, 0, none⟩), .int .i64 e, .bool done] 40) :: slc 5 1 (.slice sa M sc) M (bcells out) :: Prt g rg s n5 e6 :: Tbl tl L :: Tbl td D :: ps)) 16 (by kernel_rfl) (by kernel_rfl) HR.drew ?_
      simp only [List.take_succ_cons, List.take_zero, List.drop_succ_cons, List.drop_zero]
      repeat
        first
        | (refine calm_value (v := ?_) (by decide) rfl (fun σ w1 hS => ?_) ?_
           rotate_left
           · have c0 := hS.cells
             first | (go_simp; rfl) | rfl
           simp only [Act.put, List.setIfInBounds_toArray, List.set_cons_zero, List.set_cons_succ])
        | (refine calm_skip (by decide) rfl ?_
           simp only [Act.put, List.setIfInBounds_toArray, List.set_cons_zero, List.set_cons_succ])
      refine calm_call (v := .bool false) (by decide) rfl (fun w1 => (by go_simp; first | exact ⟨rfl, rfl⟩ | rfl)) (fun σ w1 hS => ?_) ?_
      · refine (ptok_any (hS.front 2 rfl)).mono ?_
        rintro e0 _ ⟨rfl, rfl⟩
        exact ⟨by rw [decide_eq_false he6.out], hS⟩
      simp only [Act.put, List.setIfInBounds_toArray, List.set_cons_zero, List.set_cons_succ]
      repeat
        first
        | (refine calm_value (v := ?_) (by decide) rfl (fun σ w1 hS => ?_) ?_
           rotate_left
           · have c0 := hS.cells
             first | (go_simp; rfl) | rfl
           simp only [Act.put, List.setIfInBounds_toArray, List.set_cons_zero, List.set_cons_succ])
        | (refine calm_skip (by decide) rfl ?_
           simp only [Act.put, List.setIfInBounds_toArray, List.set_cons_zero, List.set_cons_succ])
      refine calm_nil ?_
      intro wd HD
      clear HR
      have H := HD.unstr hM.out.symm
      clear HD
      have HK := Lib.hid (ptok_any (H.front 1 rfl))
      rw [decide_eq_false he6.out] at HK
      go_wp2_with fail
      refine HK.out.mono ?_
      rintro e0 w4 ⟨rfl, rfl⟩
      go_wp2
      refine bodyPost_ret (results_none rfl _ _ _) rfl ?_
      exact ⟨_, rfl, hfin.out _ H⟩
    subst he6
    have hpl2 := hpl.out.2 rfl
    clear hpl
    obtain ⟨sa, sc, h1, h2, HR⟩ := H.str
    rw [hM.out] at HR h1
    clear H
    have hw : IntKind.i64.wrap (most - (M : Int)) = most - M := IntWalk.i64_in _ ⟨by omega, by omega⟩
    by_cases hlt : most - (M : Int) < len
    · have hfin : Hid (∀ w', Own w0 w' (StR gr ⟨buf, bit, used, out, most, told, true, last, .pointer (some ⟨tl, 0, none⟩), .pointer (some ⟨td, 0, none⟩), e, done⟩ :: Prt g rg s n5 12 :: Tbl tl L :: Tbl td D :: ps) → Q w') := Lib.hid fun w' h => hb3.out w' n5 12 hn5 (by decide) (hpl2.1 hlt) h
      clear hb3 hg3 hpl2
      go_upto_region 10 with (fail)
      refine wp_region_calm (fun w1 => Own w0 w1 (blk gr (.cells #[.string buf, .int .i64 bit, .int .i64 used, .slice sa M sc, .int .i64 most, .int .i64 told, .bool true, .bool last, .pointer (some ⟨tl, 0, none⟩), .pointer (some ⟨td, 0, none⟩), .int .i64 e, .bool done] 40) :: slc 5 1 (.slice sa M sc) M (bcells out) :: Prt g rg s n5 0 :: Tbl tl L :: Tbl td D :: ps)) 16 (by kernel_rfl) (by kernel_rfl) HR.drew ?_
      simp only [List.take_succ_cons, List.take_zero, List.drop_succ_cons, List.drop_zero]
      repeat
        first
        | (refine calm_value (v := ?_) (by decide) rfl (fun σ w1 hS => ?_) ?_
           rotate_left
           · have c0 := hS.cells
             first | (go_simp; rfl) | rfl
           simp only [Act.put, List.setIfInBounds_toArray, List.set_cons_zero, List.set_cons_succ])
        | (refine calm_skip (by decide) rfl ?_
           simp only [Act.put, List.setIfInBounds_toArray, List.set_cons_zero, List.set_cons_succ])
      refine calm_call (v := .bool true) (by decide) rfl (fun w1 => (by go_simp; first | exact ⟨rfl, rfl⟩ | rfl)) (fun σ w1 hS => ?_) ?_
      · refine (ptok_any (hS.front 2 rfl)).mono ?_
        rintro e0 _ ⟨rfl, rfl⟩
        exact ⟨rfl, hS⟩
      simp only [Act.put, List.setIfInBounds_toArray, List.set_cons_zero, List.set_cons_succ]
      repeat
        first
        | (refine calm_value (v := ?_) (by decide) rfl (fun σ w1 hS => ?_) ?_
           rotate_left
           · have c0 := hS.cells
             first | (go_simp; rfl) | rfl
           simp only [Act.put, List.setIfInBounds_toArray, List.set_cons_zero, List.set_cons_succ])
        | (refine calm_skip (by decide) rfl ?_
           simp only [Act.put, List.setIfInBounds_toArray, List.set_cons_zero, List.set_cons_succ])
      refine calm_nil ?_
      intro wd HD
      clear HR
      have H := (((HD.unstr hM.out.symm).front 1 rfl).prt)
      rw [se_zero.1, se_zero.2] at H
      clear HD
      go_upto_region 12 with (refine wpList_store_int rfl _ _ rfl rfl H rfl (by kernel_rfl) (by simp) ?_; clear H; intro w6 H)
      have H5 : Own w0 w6 (Prt g rg s n5 12 :: StR gr ⟨buf, bit, used, out, most, told, true, last, .pointer (some ⟨tl, 0, none⟩), .pointer (some ⟨td, 0, none⟩), e, done⟩ :: Tbl tl L :: Tbl td D :: ps) := Own.unprt (e := 12) H
      have HK := Lib.hid (ptok_any H5)
      rw [decide_eq_false (by decide)] at HK
      clear H
      go_wp2_with fail
      refine HK.out.mono ?_
      rintro e0 w7 ⟨rfl, rfl⟩
      go_wp2
      refine bodyPost_ret (results_none rfl _ _ _) rfl ?_
      exact ⟨_, rfl, hfin.out _ (H5.front 1 rfl)⟩
    · have hpl3 := hpl2.2 (by omega)
      clear hpl2 hb3
      go_upto_region 10 with (fail)
      refine wp_region_calm (fun w1 => Own w0 w1 (blk gr (.cells #[.string buf, .int .i64 bit, .int .i64 used, .slice sa M sc, .int .i64 most, .int .i64 told, .bool true, .bool last, .pointer (some ⟨tl, 0, none⟩), .pointer (some ⟨td, 0, none⟩), .int .i64 e, .bool done] 40) :: slc 5 1 (.slice sa M sc) M (bcells out) :: Prt g rg s n5 0 :: Tbl tl L :: Tbl td D :: ps)) 16 (by kernel_rfl) (by kernel_rfl) HR.drew ?_
      simp only [List.take_succ_cons, List.take_zero, List.drop_succ_cons, List.drop_zero]
      repeat
        first
        | (refine calm_value (v := ?_) (by decide) rfl (fun σ w1 hS => ?_) ?_
           rotate_left
           · have c0 := hS.cells
             first | (go_simp; rfl) | rfl
           simp only [Act.put, List.setIfInBounds_toArray, List.set_cons_zero, List.set_cons_succ])
        | (refine calm_skip (by decide) rfl ?_
           simp only [Act.put, List.setIfInBounds_toArray, List.set_cons_zero, List.set_cons_succ])
      refine calm_call (v := .bool true) (by decide) rfl (fun w1 => (by go_simp; first | exact ⟨rfl, rfl⟩ | rfl)) (fun σ w1 hS => ?_) ?_
      · refine (ptok_any (hS.front 2 rfl)).mono ?_
        rintro e0 _ ⟨rfl, rfl⟩
        exact ⟨rfl, hS⟩
      simp only [Act.put, List.setIfInBounds_toArray, List.set_cons_zero, List.set_cons_succ]
      repeat
        first
        | (refine calm_value (v := ?_) (by decide) rfl (fun σ w1 hS => ?_) ?_
           rotate_left
           · have c0 := hS.cells
             first | (go_simp; rfl) | rfl
           simp only [Act.put, List.setIfInBounds_toArray, List.set_cons_zero, List.set_cons_succ])
        | (refine calm_skip (by decide) rfl ?_
           simp only [Act.put, List.setIfInBounds_toArray, List.set_cons_zero, List.set_cons_succ])
      refine calm_nil ?_
      intro wd HD
      clear HR
      have HK := Lib.hid (ptok_any (HD.front 2 rfl))
      rw [decide_eq_true rfl] at HK
      by_cases hv2 : v < 256
      · obtain ⟨rfl, hgo⟩ := hpl3.1 hv2
        have hfin : Hid (∀ w', Own w0 w' (StR gr ⟨buf, bit, used, out ++ [v], most, told, true, last, .pointer (some ⟨tl, 0, none⟩), .pointer (some ⟨td, 0, none⟩), e, done⟩ :: Prt g rg s n5 0 :: Tbl tl L :: Tbl td D :: ps) → Q w') := Lib.hid fun w' h => hg3.out w' n5 _ hn5 (by rw [List.length_append, hM.out]; simp; omega) hgo h
        have hu8 : IntKind.u8.wrap v = v := IntWalk.u8_in _ ⟨by omega, by omega⟩
        clear hg3 hpl3 hgo hlt hw
        go_wp2_with fail
        refine HK.out.mono ?_
        rintro e0 w4 ⟨rfl, rfl⟩
        clear HK
        have c0 := HD.cells
        have H3 := HD.front 1 rfl
        clear HD
        go_wp2_with (first
          | (at_builtin; refine wpList_append_one rfl _ _ rfl Try.underlying37 u8Info rfl (by decide) rfl H3 (news := [.int .u8 v]) rfl rfl rfl (by simp [Value.oneCell']) (by omega) (by omega) ?_; clear H3 c0; intro v' w' H; obtain ⟨a', c', rfl, h1', h2'⟩ := H.rd.shape)
          | (refine wpList_store_slice rfl _ _ rfl rfl (H.front 1 rfl) rfl (by kernel_rfl) (by simp) ?_; clear H; intro w2 H))
        refine bodyPost_ret (results_none rfl _ _ _) rfl ?_
        have hlen : M + 1 = (out ++ [v]).length := by rw [List.length_append, hM.out]; rfl
        rw [bcells_snoc] at H
        exact ⟨_, rfl, hfin.out _ (H.unstr hlen)⟩
      · obtain ⟨hd2, hdM, hl2, hgo⟩ := hpl3.2 (by omega)
        obtain ⟨dd, rfl⟩ : ∃ j : Nat, d = j := ⟨d.toNat, by omega⟩
        obtain ⟨nn, rfl⟩ : ∃ j : Nat, len = j := ⟨len.toNat, by omega⟩
        simp only [Int.toNat_natCast] at hgo
        have hfin : Hid (∀ w', Own w0 w' (StR gr ⟨buf, bit, used, copyN dd out nn, most, told, true, last, .pointer (some ⟨tl, 0, none⟩), .pointer (some ⟨td, 0, none⟩), e, done⟩ :: Prt g rg s n5 0 :: Tbl tl L :: Tbl td D :: ps) → Q w') := Lib.hid fun w' h => hg3.out w' n5 _ hn5 (by rw [copyN_length, hM.out]; omega) hgo h
        have hd1 : 1 ≤ dd := by omega
        have hn1' : 1 ≤ nn := by omega
        have hd2' : dd ≤ M := by omega
        have hnM : (M : Int) + nn ≤ most := by omega
        have H6 := HD.unstr hM.out.symm
        clear hg3 hpl3 hgo hlt hw hd2 hdM hl2 hd0 hl0 hv0 hv1 hvb HD
        go_wp2_with fail
        refine HK.out.mono ?_
        rintro e0 w4 ⟨rfl, rfl⟩
        clear HK
        go_wp2_with fail
        go_loopw [79] (fun s79 wx => ∃ j : Nat, s79 = .int .i64 j ∧ j ≤ nn ∧ Own w0 wx (StR gr ⟨buf, bit, used, copyN dd out j, most, told, true, last, .pointer (some ⟨tl, 0, none⟩), .pointer (some ⟨td, 0, none⟩), e, done⟩ :: Prt g rg s n5 0 :: Tbl tl L :: Tbl td D :: ps)) (fun s79 _ => nn - (intOf s79).toNat)
        case atStart => exact ⟨0, by go_num, by omega, H6⟩
        case round =>
          clear H6
          obtain ⟨j, rfl, hj, H⟩ := hrel
          by_cases hjm : j < nn
          case neg =>
            obtain rfl : j = nn := by omega
            have hjI : ¬ (j : Int) < (j : Int) := by omega
            go_wp2
            go_end0
            exact ⟨_, rfl, hfin.out _ H⟩
          have hjI : (j : Int) < (nn : Int) := by omega
          obtain ⟨N, hN⟩ : ∃ N, Hid (M + j = N) := ⟨_, rfl⟩
          have hcl : (copyN dd out j).length = N := by rw [copyN_length, hM.out, hN.out]
          have hNb : N + 1 ≤ 1000000 := by have := hN.out; omega
          obtain ⟨q, hq⟩ : ∃ q, Hid (N - dd = q) := ⟨_, rfl⟩
          have hdN : dd ≤ N := by have := hN.out; omega
          have hqI : (N : Int) - (dd : Int) = (q : Int) := by have := hq.out; omega
          have hqN : q < N := by have := hq.out; omega
          have hqNI : (q : Int) < (N : Int) := by omega
          obtain ⟨x, hx⟩ : ∃ x, (copyN dd out j)[q]? = some x := ⟨_, List.getElem?_eq_getElem (by omega)⟩
          have hnx : Hid (copyN dd out (j + 1) = copyN dd out j ++ [x]) := Lib.hid (by
            rw [copyN, hcl, hq.out, List.getD_eq_getElem?_getD, hx]; rfl)
          have HX := Lib.hid (bcells_get hx)
          clear hx
          obtain ⟨OJ, hOJ⟩ : ∃ OJ, Hid (copyN dd out j = OJ) := ⟨_, rfl⟩
          rw [hOJ.out] at H HX hnx hcl
          obtain ⟨a, c1, h1, h2, HI⟩ := H.str
          rw [hcl] at HI h1
          obtain ⟨gb, cc, hgb, hg1, hg2, -⟩ := (HI.front 1 rfl).at (by rw [bcells_length, hcl]; omega)
          cases hgb
          replace hcl := Lib.hid hcl
          have hw : IntKind.i64.wrap (q : Int) = q := IntWalk.i64_in _ ⟨by omega, by omega⟩
          have hcell : ∀ (w1 : World) (qs : List Piece), Own w0 w1 (blk gr (.cells #[.string buf, .int .i64 bit, .int .i64 used, .slice (some ⟨gb, 0, none⟩) N c1, .int .i64 most, .int .i64 told, .bool true, .bool last, .pointer (some ⟨tl, 0, none⟩), .pointer (some ⟨td, 0, none⟩), .int .i64 e, .bool done] 40) :: slc 5 1 (.slice (some ⟨gb, 0, none⟩) N c1) N (bcells OJ) :: qs) → w1.cell? ⟨gb, q, none⟩ = some (.int .u8 x) := fun w1 qs h => by
            have h3 := (h.front 1 rfl).rd.cell HX.out
            rwa [Nat.zero_add] at h3
          replace hcell := Lib.hid hcell
          clear H
          go_upto_region 17 with (fail)
          refine wp_region_pres (fun σ w1 => Own w0 w1 (newR (.cells #[.int .u8 x] 5) 1 (σ 18) ++ (blk gr (.cells #[.string buf, .int .i64 bit, .int .i64 used, .slice (some ⟨gb, 0, none⟩) N c1, .int .i64 most, .int .i64 told, .bool true, .bool last, .pointer (some ⟨tl, 0, none⟩), .pointer (some ⟨td, 0, none⟩), .int .i64 e, .bool done] 40) :: slc 5 1 (.slice (some ⟨gb, 0, none⟩) N c1) N (bcells OJ) :: Prt g rg s n5 0 :: Tbl tl L :: Tbl td D :: ps))) 19 [18] [0] (by kernel_rfl) (by kernel_rfl) (by kernel_rfl) (by kernel_rfl) (fun _ _ d _ _ h => by cases d <;> exact h) ⟨_, _, rfl, fun w => (by first | rfl | (go_simp; rfl)), rfl⟩ HI.drew ?_
          simp only [List.take_succ_cons, List.take_zero, List.drop_succ_cons, List.drop_zero]
          repeat
            first
            | (refine calm_value (v := ?_) (by decide) rfl (fun σ w1 hS => ?_) ?_
               rotate_left
               · have c0 := hS.skip.cells; have c3 := hcell.out _ _ hS.skip
                 first | (go_simp; rfl) | rfl
               simp only [Act.put, List.setIfInBounds_toArray, List.set_cons_zero, List.set_cons_succ])
            | (refine calm_skip (by decide) rfl ?_
               simp only [Act.put, List.setIfInBounds_toArray, List.set_cons_zero, List.set_cons_succ])
          refine calm_row (by decide) (fun w1 => (by go_simp)) ?_
          refine calm_nil ?_
          intro σ wd hσ HD
          obtain ⟨vn, hvn⟩ := Option.isSome_iff_exists.1 (hσ 18 (by decide))
          rw [hvn] at HD
          obtain ⟨g2, rfl, HN⟩ := HD.newr
          clear HD HI hcell
          simp only [putNew, List.foldl_cons, List.foldl_nil, hvn]
          simp only [Act.put, List.setIfInBounds_toArray, List.set_cons_zero, List.set_cons_succ, List.getElem?_cons_succ, List.getElem?_cons_zero, Option.bind_some, Option.getD_some]
          have hrow := (HN.slc_mk (xs := [.int .u8 x]) (n := 1) (size := 1) rfl (Nat.le_refl _) (by decide) rfl rfl).rd
          have H3 := HN.drop.front 1 rfl
          clear HN hσ hvn
          go_wp2_with (first
            | (at_builtin; refine wpList_append_sep rfl _ _ rfl Try.underlying37 u8Info rfl (by decide) rfl H3 hrow (by simp [Value.oneCell']) (by omega) (by omega) ?_; clear H3 hrow; intro v' w' H; obtain ⟨a', c', rfl, h1', h2'⟩ := H.rd.shape)
            | (refine wpList_store_slice rfl _ _ rfl rfl (H.front 1 rfl) rfl (by kernel_rfl) (by simp) ?_; clear H; intro w2 H))
          have hlen : N + 1 = (OJ ++ [x]).length := by rw [List.length_append, hcl.out]; rfl
          have H4 : Own w0 w2 (StR gr ⟨buf, bit, used, copyN dd out (j + 1), most, told, true, last, .pointer (some ⟨tl, 0, none⟩), .pointer (some ⟨td, 0, none⟩), e, done⟩ :: Prt g rg s n5 0 :: Tbl tl L :: Tbl td D :: ps) := by
            rw [hnx.out]
            exact Own.unstr (by rw [← bcells_snoc]; exact H) hlen
          clear H
          go_roundw
          case rel => exact ⟨j + 1, by go_num, by omega, H4⟩
          case measure => simp [intOf]; omega
  refine hgoal.mono ?_
  rintro e1 w1 ⟨v, rfl, h⟩
  exact ⟨v, rfl, (hQ'.out w1).mpr h⟩
end Go.Proofs.Ytljejkdkjnbmhaa
/- inflate: of less bits, with a lower limit, plainly. No program in sight. -/
namespace Go.Proofs.Ytljejkdkjnbmhaa

/-- Of the first m bits: the same, or they run out. -/
def CutOk {α : Type} (g g' : Got α) (m : Nat) : Prop := ∀ v n', g = .ok v n' → (n' ≤ m → g' = .ok v n') ∧ (m < n' → g' = .ran)
theorem cut_bind {α β : Type} {bs : List Bool} {g g' : Got α} {f f' : α → Nat → Got β} {m n d : Nat} (h1 : CutOk g g' m) (hg : Goes bs g n d) (h2 : ∀ v n1, n1 ≤ bs.length → CutOk (f v n1) (f' v n1) m) (h3 : ∀ v n1, n1 ≤ bs.length → Goes bs (f v n1) n1 0) : CutOk (g.bind f) (g'.bind f') m := by
  intro w n2 h
  obtain ⟨v, n1, e1, e2⟩ := Got.bind_inv h
  have hb := hg.le v n1 e1
  have hle := (h3 v n1 hb.2).le w n2 e2
  have hc := h2 v n1 hb.2 w n2 e2
  have hc1 := h1 v n1 e1
  constructor
  · intro hm
    rw [hc1.1 (by omega)]
    exact hc.1 hm
  · intro hm
    rcases Nat.lt_or_ge m n1 with h9 | h9
    · rw [hc1.2 h9]; rfl
    · rw [hc1.1 h9]
      exact hc.2 hm
theorem cut_ite {α : Type} {c : Prop} [Decidable c] {a a' b b' : Got α} {m : Nat} (h1 : c → CutOk a a' m) (h2 : ¬ c → CutOk b b' m) : CutOk (if c then a else b) (if c then a' else b') m := by
  by_cases h : c
  · rw [if_pos h, if_pos h]; exact h1 h
  · rw [if_neg h, if_neg h]; exact h2 h
theorem cut_bad {α : Type} {e : Int} {g : Got α} {m : Nat} : CutOk (.bad e : Got α) g m := fun v n h => by cases h
theorem cut_ok {α : Type} {v : α} {n m : Nat} (hn : n ≤ m) : CutOk (.ok v n : Got α) (.ok v n) m := fun w k h => by cases h; exact ⟨fun _ => rfl, fun h => absurd h (by omega)⟩
theorem cut_take {bs : List Bool} {k n m : Nat} (hm : m ≤ bs.length) : CutOk (takeG bs k n) (takeG (bs.take m) k n) m := by
  intro v n' h
  unfold takeG at h
  split at h
  · cases h
    unfold takeG
    rw [List.length_take, Nat.min_eq_left hm]
    constructor
    · intro h2
      rw [if_pos h2, List.drop_take, List.take_take, Nat.min_eq_left (by omega)]
    · intro h2
      rw [if_neg (by omega)]
  · cases h
theorem decN_take (l : List Int) (f : Nat) : ∀ n c bs k, (decN l f n c bs).2.1 = 0 → ((decN l f n c bs).2.2 ≤ k → decN l f n c (bs.take k) = decN l f n c bs) ∧ (k < (decN l f n c bs).2.2 → (decN l f n c (bs.take k)).2.1 ≠ 0 ∧ (decN l f n c (bs.take k)).2.2 < f) := by
  induction f with
  | zero => intro n c bs k h; simp [decN] at h
  | succ f ih =>
    intro n c bs k h
    cases bs with
    | nil => simp [decN] at h
    | cons b t =>
      rw [decN] at h
      cases k with
      | zero =>
        constructor
        · intro h2
          have := decN_pos l (f + 1) n c (b :: t) (by rw [decN]; exact h)
          omega
        · intro _
          rw [List.take_zero, decN]
          exact ⟨by simp, by simp⟩
      | succ k =>
        rw [List.take_succ_cons, decN, decN]
        cases hs : (symsL l (n + 1))[(2 * c + bi b - lowF l (n + 1)).toNat]? with
        | some s =>
          simp
        | none =>
          rw [hs] at h
          simp only at h ⊢
          have := ih (n + 1) (2 * c + bi b) t k h
          constructor
          · intro h2
            rw [this.1 (by omega)]
          · intro h2
            have := this.2 (by omega)
            exact ⟨this.1, by omega⟩
theorem cut_sym {bs : List Bool} {L : List Int} {n m : Nat} (hm : m ≤ bs.length) : CutOk (symG bs L n) (symG (bs.take m) L n) m := by
  intro v n' h
  unfold symG at h
  split at h
  · next h0 =>
    cases h
    have hd := decN_take L 15 0 0 (bs.drop n) (m - n) h0
    have hp := decN_pos L 15 0 0 _ h0
    unfold symG
    rw [List.drop_take]
    constructor
    · intro h2
      have e : decF L ((bs.drop n).take (m - n)) = decF L (bs.drop n) := hd.1 (by unfold decF at h2; omega)
      rw [e, if_pos h0]
    · intro h2
      have e : (decF L ((bs.drop n).take (m - n))).2.1 ≠ 0 ∧ (decF L ((bs.drop n).take (m - n))).2.2 < 15 := hd.2 (by unfold decF at h2; omega)
      rw [if_neg e.1, if_pos e.2]
  · split at h <;> cases h
theorem cut_stored {bs : List Bool} {most : Int} {out : List Int} {n m : Nat} (hm : m ≤ bs.length) : CutOk (storedG bs most out n) (storedG (bs.take m) most out n) m := by
  have hlen : (bs.take m).length = m := by rw [List.length_take, Nat.min_eq_left hm]
  unfold storedG
  refine cut_bind (bs := bs) (cut_take hm) (goes_take bs 16 _) (fun a n1 _ => cut_bind (bs := bs) (cut_take hm) (goes_take bs 16 n1) (fun b n2 _ => ?_) (fun b n2 _ => ?_)) (fun a n1 _ => (goes_bind (goes_take bs 16 n1) fun b n2 _ _ => ?_).zero)
  · refine cut_ite (fun _ => ?_) fun _ => cut_bad
    intro v n' h
    rw [hlen]
    split at h
    · next h1 =>
      split at h
      · cases h
      · next h2 =>
        cases h
        constructor
        · intro h3
          rw [if_pos h3, if_neg h2]
          unfold bytesAt
          rw [List.drop_take, List.take_take, Nat.min_eq_left (by omega)]
        · intro h3
          rw [if_neg (by omega)]
    · cases h
  all_goals
    refine goes_ite (fun _ => goes_ite (fun h => goes_ite (fun _ => goes_bad) fun _ => ?_) fun _ => goes_ran) fun _ => goes_bad
    exact ⟨fun v m e => by cases e; omega⟩
theorem cut_lens {bs : List Bool} {m : Nat} (hm : m ≤ bs.length) : ∀ k xs n, n ≤ bs.length → CutOk (lensG bs k xs n) (lensG (bs.take m) k xs n) m ∨ m < n := by
  intro k
  induction k with
  | zero =>
    intro xs n _
    rcases Nat.lt_or_ge m n with h | h
    · exact .inr h
    · exact .inl (cut_ok h)
  | succ k ih =>
    intro xs n hn
    rcases Nat.lt_or_ge m n with h | h
    · exact .inr h
    · left
      intro w n2 hw
      rw [lensG] at hw ⊢
      obtain ⟨v, n1, e1, e2⟩ := Got.bind_inv hw
      have hb := (goes_take bs 3 n).le v n1 e1
      have hc1 := cut_take (k := 3) (n := n) hm v n1 e1
      have hle := (goes_lens bs k (xs ++ [v]) n1 hb.2).le w n2 e2
      rcases Nat.lt_or_ge m n1 with h9 | h9
      · rw [hc1.2 h9]
        exact ⟨fun h => absurd h (by omega), fun _ => rfl⟩
      · rw [hc1.1 h9]
        rcases ih (xs ++ [v]) n1 hb.2 with h8 | h8
        · exact h8 w n2 e2
        · omega
/-- A part that begins behind the m bits is of no matter. -/
theorem cut_bind' {α β : Type} {bs : List Bool} {g g' : Got α} {f f' : α → Nat → Got β} {m n d : Nat} (h1 : CutOk g g' m) (hg : Goes bs g n d) (h2 : ∀ v n1, n1 ≤ bs.length → n1 ≤ m → CutOk (f v n1) (f' v n1) m) (h3 : ∀ v n1, n1 ≤ bs.length → Goes bs (f v n1) n1 0) : CutOk (g.bind f) (g'.bind f') m := by
  intro w n2 h
  obtain ⟨v, n1, e1, e2⟩ := Got.bind_inv h
  have hb := hg.le v n1 e1
  have hle := (h3 v n1 hb.2).le w n2 e2
  have hc1 := h1 v n1 e1
  rcases Nat.lt_or_ge m n1 with h9 | h9
  · rw [hc1.2 h9]
    exact ⟨fun h => absurd h (by omega), fun _ => rfl⟩
  · rw [hc1.1 h9]
    exact h2 v n1 hb.2 h9 w n2 e2
theorem cut_lengths {bs : List Bool} {m : Nat} (hm : m ≤ bs.length) (T : List Int) (N : Nat) : ∀ d l n, N - l.length ≤ d → n ≤ bs.length → n ≤ m → CutOk (lengthsG bs T N l n) (lengthsG (bs.take m) T N l n) m := by
  intro d
  induction d with
  | zero =>
    intro l n hd hn hnm
    rw [lengthsG, dif_pos (by omega), lengthsG, dif_pos (by omega)]
    exact cut_ok hnm
  | succ d ih =>
    intro l n hd hn hnm
    rw [lengthsG]
    by_cases hN : N ≤ l.length
    · rw [dif_pos hN, lengthsG, dif_pos hN]; exact cut_ok hnm
    · rw [dif_neg hN]
      conv => arg 2; rw [lengthsG, dif_neg hN]
      have go2 : ∀ (c : Int) (n1 : Nat), n1 ≤ bs.length → Goes bs (if c < 16 then lengthsG bs T N (l ++ [c]) n1
        else if c = 16 then (if l.length = 0 then .bad 2 else (takeG bs 2 n1).bind fun v n2 => if N < l.length + (3 + v.toNat) then .bad 2 else lengthsG bs T N (l ++ List.replicate (3 + v.toNat) (l.getD (l.length - 1) 0)) n2)
        else if c = 17 then (takeG bs 3 n1).bind fun v n2 => if N < l.length + (3 + v.toNat) then .bad 2 else lengthsG bs T N (l ++ List.replicate (3 + v.toNat) 0) n2
        else (takeG bs 7 n1).bind fun v n2 => if N < l.length + (11 + v.toNat) then .bad 2 else lengthsG bs T N (l ++ List.replicate (11 + v.toNat) 0) n2) n1 0 := by
        intro c n1 h1
        refine goes_ite (fun _ => goes_lengths bs T N _ _ _ (Nat.le_refl _) h1) fun _ => goes_ite (fun _ => goes_ite (fun _ => goes_bad) fun _ => ?_) fun _ => goes_ite (fun _ => ?_) fun _ => ?_
        all_goals exact (goes_bind (goes_take bs _ n1) fun v m _ hm => goes_ite (fun _ => goes_bad) fun _ => goes_lengths bs T N _ _ m (Nat.le_refl _) hm).zero
      refine cut_bind' (bs := bs) (cut_sym hm) (goes_sym bs T n hn) (fun c n1 h1 h2 => ?_) go2
      refine cut_ite (fun _ => ih _ _ (by simp; omega) h1 h2) fun _ => cut_ite (fun _ => cut_ite (fun _ => cut_bad) fun _ => ?_) fun _ => cut_ite (fun _ => ?_) fun _ => ?_
      all_goals exact cut_bind' (bs := bs) (cut_take hm) (goes_take bs _ n1) (fun v n2 h3 h4 => cut_ite (fun _ => cut_bad) fun _ => ih _ n2 (by simp; omega) h3 h4) (fun v n2 h3 => goes_ite (fun _ => goes_bad) fun _ => goes_lengths bs T N _ _ n2 (Nat.le_refl _) h3)
theorem cut_codes {bs : List Bool} {n m : Nat} (hm : m ≤ bs.length) : CutOk (codesG bs n) (codesG (bs.take m) n) m := by
  unfold codesG
  have g5 : ∀ (lits : Nat) (l : List Int) (n5 : Nat), n5 ≤ bs.length → Goes bs (if l.getD 256 0 ≠ 0 ∧ terrF (l.take lits) = 0 ∧ terrF (l.drop lits) = 0 then (.ok (l.take lits, l.drop lits) n5 : Got (List Int × List Int)) else .bad 2) n5 0 := fun lits l n5 h => goes_ite (fun _ => goes_ok h) fun _ => goes_bad
  have g4 : ∀ (a b : Int) (xs : List Int) (n4 : Nat), n4 ≤ bs.length → Goes bs (if terrF (unordF xs) = 0 then
        (lengthsG bs (unordF xs) (257 + a.toNat + (1 + b.toNat)) [] n4).bind fun l n5 =>
          if l.getD 256 0 ≠ 0 ∧ terrF (l.take (257 + a.toNat)) = 0 ∧ terrF (l.drop (257 + a.toNat)) = 0 then (.ok (l.take (257 + a.toNat), l.drop (257 + a.toNat)) n5 : Got (List Int × List Int)) else .bad 2
      else .bad 2) n4 0 := fun a b xs n4 h => goes_ite (fun _ => goes_bind (goes_lengths bs _ _ _ _ n4 (Nat.le_refl _) h) fun l n5 _ h5 => g5 _ l n5 h5) fun _ => goes_bad
  have g3 : ∀ (a b c : Int) (n3 : Nat), n3 ≤ bs.length → Goes bs (if 29 < a ∨ 29 < b then (.bad 2 : Got (List Int × List Int)) else (lensG bs (4 + c.toNat) [] n3).bind fun xs n4 => if terrF (unordF xs) = 0 then
        (lengthsG bs (unordF xs) (257 + a.toNat + (1 + b.toNat)) [] n4).bind fun l n5 =>
          if l.getD 256 0 ≠ 0 ∧ terrF (l.take (257 + a.toNat)) = 0 ∧ terrF (l.drop (257 + a.toNat)) = 0 then (.ok (l.take (257 + a.toNat), l.drop (257 + a.toNat)) n5 : Got (List Int × List Int)) else .bad 2
      else .bad 2) n3 0 := fun a b c n3 h => goes_ite (fun _ => goes_bad) fun _ => goes_bind (goes_lens bs _ _ n3 h) fun xs n4 _ h4 => g4 a b xs n4 h4
  refine cut_bind' (bs := bs) (cut_take hm) (goes_take bs 5 n) (fun a n1 h1 h1m => ?_) (fun a n1 h1 => (goes_bind (goes_take bs 5 n1) fun b n2 _ h2 => (goes_bind (goes_take bs 4 n2) fun c n3 _ h3 => g3 a b c n3 h3).zero).zero)
  refine cut_bind' (bs := bs) (cut_take hm) (goes_take bs 5 n1) (fun b n2 h2 h2m => ?_) (fun b n2 h2 => (goes_bind (goes_take bs 4 n2) fun c n3 _ h3 => g3 a b c n3 h3).zero)
  refine cut_bind' (bs := bs) (cut_take hm) (goes_take bs 4 n2) (fun c n3 h3 h3m => ?_) (fun c n3 h3 => g3 a b c n3 h3)
  refine cut_ite (fun _ => cut_bad) fun _ => ?_
  have hl : CutOk (lensG bs (4 + c.toNat) [] n3) (lensG (bs.take m) (4 + c.toNat) [] n3) m := by
    rcases cut_lens hm (4 + c.toNat) [] n3 h3 with h | h
    · exact h
    · omega
  refine cut_bind' (bs := bs) hl (goes_lens bs _ _ n3 h3) (fun xs n4 h4 h4m => ?_) (fun xs n4 h4 => g4 a b xs n4 h4)
  refine cut_ite (fun _ => ?_) fun _ => cut_bad
  exact cut_bind' (bs := bs) (cut_lengths hm _ _ _ _ n4 (Nat.le_refl _) h4 h4m) (goes_lengths bs _ _ _ _ n4 (Nat.le_refl _) h4) (fun l n5 h5 h5m => cut_ite (fun _ => cut_ok h5m) fun _ => cut_bad) (fun l n5 h5 => g5 _ l n5 h5)
theorem cut_tok {bs : List Bool} {most : Int} {L D out : List Int} {n m : Nat} (hm : m ≤ bs.length) (hn : n ≤ bs.length) : CutOk (tokG bs most L D out n) (tokG (bs.take m) most L D out n) m := by
  unfold tokG
  have g4 : ∀ (c k v u : Int) (n4 : Nat), n4 ≤ bs.length → Goes bs (if (out.length : Int) < (distT0 k.toNat).1 + u then (.bad 2 : Got (Option (List Int))) else if most - out.length < (lenT0 c.toNat).1 + v then .bad 12 else .ok (some (copyN ((distT0 k.toNat).1 + u.toNat) out ((lenT0 c.toNat).1 + v.toNat))) n4) n4 0 := fun c k v u n4 h => goes_ite (fun _ => goes_bad) fun _ => goes_ite (fun _ => goes_bad) fun _ => goes_ok h
  have g3 : ∀ (c v k : Int) (n3 : Nat), n3 ≤ bs.length → Goes bs (if 29 < k then (.bad 2 : Got (Option (List Int))) else (takeG bs (distT0 k.toNat).2 n3).bind fun u n4 => if (out.length : Int) < (distT0 k.toNat).1 + u then .bad 2 else if most - out.length < (lenT0 c.toNat).1 + v then .bad 12 else .ok (some (copyN ((distT0 k.toNat).1 + u.toNat) out ((lenT0 c.toNat).1 + v.toNat))) n4) n3 0 := fun c v k n3 h => goes_ite (fun _ => goes_bad) fun _ => (goes_bind (goes_take bs _ n3) fun u n4 _ h4 => g4 c k v u n4 h4).zero
  refine cut_bind' (bs := bs) (cut_sym hm) (goes_sym bs L n hn) (fun c n1 h1 h1m => ?_) (fun c n1 h1 => ?_)
  · refine cut_ite (fun _ => cut_ok h1m) fun _ => cut_ite (fun _ => cut_ite (fun _ => cut_bad) fun _ => cut_ok h1m) fun _ => cut_ite (fun _ => cut_bad) fun _ => ?_
    refine cut_bind' (bs := bs) (cut_take hm) (goes_take bs _ n1) (fun v n2 h2 h2m => ?_) (fun v n2 h2 => (goes_bind (goes_sym bs D n2 h2) fun k n3 _ h3 => g3 c v k n3 h3).zero)
    refine cut_bind' (bs := bs) (cut_sym hm) (goes_sym bs D n2 h2) (fun k n3 h3 h3m => ?_) (fun k n3 h3 => g3 c v k n3 h3)
    refine cut_ite (fun _ => cut_bad) fun _ => ?_
    exact cut_bind' (bs := bs) (cut_take hm) (goes_take bs _ n3) (fun u n4 h4 h4m => cut_ite (fun _ => cut_bad) fun _ => cut_ite (fun _ => cut_bad) fun _ => cut_ok h4m) (fun u n4 h4 => g4 c k v u n4 h4)
  · refine goes_ite (fun _ => goes_ok h1) fun _ => goes_ite (fun _ => goes_ite (fun _ => goes_bad) fun _ => goes_ok h1) fun _ => goes_ite (fun _ => goes_bad) fun _ => ?_
    exact (goes_bind (goes_take bs _ n1) fun v n2 _ h2 => (goes_bind (goes_sym bs D n2 h2) fun k n3 _ h3 => g3 c v k n3 h3).zero).zero
theorem cut_step {bs : List Bool} {most : Int} {st : Inf} {m : Nat} (hm : m ≤ bs.length) (hn : st.n ≤ bs.length) : CutOk (stepG bs most st) (stepG (bs.take m) most st) m := by
  unfold stepG
  cases st.tab with
  | none =>
    simp only
    unfold headG
    have g2 : ∀ (a k : Int) (n2 : Nat), n2 ≤ bs.length → Goes bs (if k = 0 then (storedG bs most st.out n2).bind fun o n3 => (.ok ⟨n3, o, none, decide (a = 1)⟩ n3 : Got Inf)
      else if k = 1 then .ok ⟨n2, st.out, some fixTab, decide (a = 1)⟩ n2
      else if k = 2 then (codesG bs n2).bind fun t n3 => .ok ⟨n3, st.out, some t, decide (a = 1)⟩ n3
      else .bad 2) n2 0 := fun a k n2 h => goes_ite (fun _ => goes_bind (goes_stored bs most st.out n2) fun o n3 _ h3 => goes_ok h3) fun _ => goes_ite (fun _ => goes_ok h) fun _ => goes_ite (fun _ => goes_bind (goes_codes bs n2) fun o n3 _ h3 => goes_ok h3) fun _ => goes_bad
    refine cut_bind' (bs := bs) (cut_take hm) (goes_take bs 1 _) (fun a n1 h1 h1m => ?_) (fun a n1 h1 => (goes_bind (goes_take bs 2 n1) fun k n2 _ h2 => g2 a k n2 h2).zero)
    refine cut_bind' (bs := bs) (cut_take hm) (goes_take bs 2 n1) (fun k n2 h2 h2m => ?_) (fun k n2 h2 => g2 a k n2 h2)
    refine cut_ite (fun _ => ?_) fun _ => cut_ite (fun _ => cut_ok h2m) fun _ => cut_ite (fun _ => ?_) fun _ => cut_bad
    · exact cut_bind' (bs := bs) (cut_stored hm) (goes_stored bs most st.out n2) (fun o n3 h3 h3m => cut_ok h3m) (fun o n3 h3 => goes_ok h3)
    · exact cut_bind' (bs := bs) (cut_codes hm) (goes_codes bs n2) (fun o n3 h3 h3m => cut_ok h3m) (fun o n3 h3 => goes_ok h3)
  | some t =>
    simp only
    refine cut_bind' (bs := bs) (cut_tok hm hn) (goes_tok bs most t.1 t.2 st.out st.n hn) (fun r n1 h1 h1m => ?_) (fun r n1 h1 => ?_)
    · cases r with
      | none => exact cut_ok h1m
      | some o => exact cut_ok h1m
    · cases r with
      | none => exact goes_ok h1
      | some o => exact goes_ok h1
end Go.Proofs.Ytljejkdkjnbmhaa
/- flate: lengths that are made for tokens, plainly. No program in sight. -/
namespace Go.Proofs.Ytljejkdkjnbmhaa

/-! ### how often -/
/-! ### without the zeros behind -/
/-! ### the codes made for tokens -/
/-- What is so of lengths that are made. -/
structure Made (L : List Int) (lo hi : Nat) : Prop where
  lo : lo ≤ L.length
  hi : L.length ≤ hi
  all : ∀ x ∈ L, 0 ≤ x ∧ x ≤ 15
  cerr : cerrF L = 0
  terr : terrF L = 0
/-- The symbols of a token have codes. -/
def SymOk' (L D : List Int) (t : Tok) : Prop := TokOk t ∧ (t.len = 0 → t.lit.toNat < L.length) ∧ (t.len ≠ 0 → (lenSym t.len.toNat).1 < L.length ∧ (distSym t.dist.toNat).1 < D.length)
/-! ### runs -/
structure RunOk (r : Run) : Prop where
  sym : 0 ≤ r.sym ∧ r.sym < 19
  n : 0 ≤ r.n ∧ r.n ≤ 7
  v : 0 ≤ r.v ∧ r.v < 2 ^ r.n.toNat
end Go.Proofs.Ytljejkdkjnbmhaa
/- flate: the document's tables, plainly. No program in sight. -/
namespace Go.Proofs.Ytljejkdkjnbmhaa

/-- The last of the first k that is not above. -/
def lastI (T : List (Nat × Nat)) (n : Nat) : Nat → Nat
  | 0 => 0
  | k + 1 => if (T.getD k (0, 0)).1 ≤ n then k else lastI T n k
def fsts (T : List (Nat × Nat)) : List Int := T.map fun p => (p.1 : Int)
def snds (T : List (Nat × Nat)) : List Int := T.map fun p => (p.2 : Int)
def lenF (i : Nat) : Nat := [3, 4, 5, 6, 7, 8, 9, 10, 11, 13, 15, 17, 19, 23, 27, 31, 35, 43, 51, 59, 67, 83, 99, 115, 131, 163, 195, 227, 259].getD i 0
def lenM (i : Nat) : Nat := (lensT.getD i (0, 0)).2
def disF (i : Nat) : Nat := [1, 2, 3, 4, 5, 7, 9, 13, 17, 25, 33, 49, 65, 97, 129, 193, 257, 385, 513, 769, 1025, 1537, 2049, 3073, 4097, 6145, 8193, 12289, 16385, 24577, 32769].getD i 0
def disM (i : Nat) : Nat := (distsT.getD i (0, 0)).2
def lenFs (k : Nat) : List Int := (fsts lensT).take k
def lenMs (k : Nat) : List Int := (snds lensT).take k
def disFs (k : Nat) : List Int := (fsts distsT).take k
def disMs (k : Nat) : List Int := (snds distsT).take k
end Go.Proofs.Ytljejkdkjnbmhaa
/- lz: what is parsed is expanded as it was; what a token tells; a text of one byte. No program in sight. -/
namespace Go.Proofs.Ytljejkdkjnbmhaa
open Go.RowKit

/-- The first bytes. -/
def bnum (s : ByteArray) (i : Nat) : List Int := (List.range i).map fun j => ((byt s j).toNat : Int)
/-! ### no byte stands by itself where three stood -/
/-! ### a text of one byte -/
/-- How many tokens a rest has. -/
def runs (r : Nat) : Nat := r / 258 + if 2 < r % 258 then 1 else r % 258
end Go.Proofs.Ytljejkdkjnbmhaa
/- inflate: what is packed in blocks is unpacked, plainly. No program in sight. -/
namespace Go.Proofs.Ytljejkdkjnbmhaa

/-- What stands from a bit on. -/
def At (bs : List Bool) (n : Nat) (x : List Bool) : Prop := n ≤ bs.length ∧ bs.drop n = x
/-- Lengths that are a table's. -/
structure Cod (L : List Int) : Prop where
  all : ∀ x ∈ L, 0 ≤ x ∧ x ≤ 15
  wt : sumF wtF L ≤ 2 ^ 15
/-! ### tokens -/
def outTok (out : List Int) (t : Tok) : List Int := if t.len = 0 then out ++ [t.lit] else copyN t.dist.toNat out t.len.toNat
/-- The symbols of a token have codes. -/
def SymPos (L D : List Int) (t : Tok) : Prop := (t.len = 0 → 0 < L.getD t.lit.toNat 0) ∧ (t.len ≠ 0 → 0 < L.getD (lenSym t.len.toNat).1 0 ∧ 0 < D.getD (distSym t.dist.toNat).1 0)
/-! ### codes that are told -/
end Go.Proofs.Ytljejkdkjnbmhaa
/- flate: what is written, as a text, plainly. No program in sight. -/
namespace Go.Proofs.Ytljejkdkjnbmhaa
open Go.RowKit

/-- What stands behind the first bit. -/
def blockR (l : List Tok) (kind : Int) : List Bool := (blockB l kind true).drop 1
end Go.Proofs.Ytljejkdkjnbmhaa
/- inflate: blocks are unpacked, plainly. No program in sight. -/
namespace Go.Proofs.Ytljejkdkjnbmhaa

/-! ### bytes -/
/-- A block of bytes, at a bit. -/
def storedB (last : Bool) (t : ByteArray) (n : Nat) : List Bool := headB last 0 ++ (List.replicate (padN (n + 3)) false ++ (bitsOf (t.size : Int) 16 ++ (bitsOf (65535 - (t.size : Int)) 16 ++ textBits t)))
/-! ### texts -/
end Go.Proofs.Ytljejkdkjnbmhaa
/- stream: of less in front, plainly; what grows. No program in sight. -/
namespace Go.Proofs.Ytljejkdkjnbmhaa
open Go.RowKit

/-- As it is said of what stands behind q bytes. -/
def shG {α β : Type} (q : Nat) (f : α → β) : Got α → Got β
  | .ok v n => .ok (f v) (n + 8 * q)
  | .ran => .ran
  | .bad e => .bad e
theorem sh_bind {α β γ δ : Type} {q : Nat} {f : α → γ} {h : β → δ} {g : Got α} {g' : Got γ} {k : α → Nat → Got β} {k' : γ → Nat → Got δ} (h1 : g' = shG q f g) (h2 : ∀ v n, k' (f v) (n + 8 * q) = shG q h (k v n)) : g'.bind k' = shG q h (g.bind k) := by
  subst h1
  cases g with
  | ok v n => exact h2 v n
  | ran => rfl
  | bad e => rfl
theorem sh_ite {α β : Type} {q : Nat} {f : α → β} {c : Prop} [Decidable c] {a b : Got α} {a' b' : Got β} (h1 : c → a' = shG q f a) (h2 : ¬ c → b' = shG q f b) : (if c then a' else b') = shG q f (if c then a else b) := by
  by_cases h : c
  · rw [if_pos h, if_pos h]; exact h1 h
  · rw [if_neg h, if_neg h]; exact h2 h
section
variable {bs : List Bool} {q : Nat} (hq : 8 * q ≤ bs.length)
include hq
theorem sh_take (k n : Nat) : takeG bs k (n + 8 * q) = shG q id (takeG (bs.drop (8 * q)) k n) := by
  unfold takeG
  rw [List.length_drop, List.drop_drop, Nat.add_comm (8 * q) n]
  by_cases h : n + 8 * q + k ≤ bs.length
  · rw [if_pos h, if_pos (by omega)]
    show Got.ok _ _ = Got.ok _ _
    rw [id, show n + 8 * q + k = n + k + 8 * q by omega]
  · rw [if_neg h, if_neg (by omega)]; rfl
omit hq in
theorem sh_sym (L : List Int) (n : Nat) : symG bs L (n + 8 * q) = shG q id (symG (bs.drop (8 * q)) L n) := by
  unfold symG
  rw [List.drop_drop, Nat.add_comm (8 * q) n]
  refine sh_ite (fun _ => ?_) fun _ => sh_ite (fun _ => rfl) fun _ => rfl
  show Got.ok _ _ = Got.ok _ _
  rw [id, show n + 8 * q + (decF L (bs.drop (n + 8 * q))).2.2 = n + (decF L (bs.drop (n + 8 * q))).2.2 + 8 * q by omega]
theorem sh_stored (most : Int) (out : List Int) (n : Nat) : storedG bs most out (n + 8 * q) = shG q id (storedG (bs.drop (8 * q)) most out n) := by
  unfold storedG
  rw [show 8 * nbytes (n + 8 * q) = 8 * nbytes n + 8 * q by unfold nbytes; omega]
  refine sh_bind (sh_take hq _ _) fun a n1 => sh_bind (sh_take hq _ _) fun b n2 => ?_
  simp only [id, List.length_drop]
  refine sh_ite (fun _ => ?_) fun _ => rfl
  by_cases h : n2 + 8 * q + 8 * a.toNat ≤ bs.length
  · rw [if_pos h, if_pos (show n2 + 8 * a.toNat ≤ bs.length - 8 * q by omega)]
    refine sh_ite (fun _ => rfl) fun _ => ?_
    show Got.ok _ _ = Got.ok _ _
    unfold bytesAt
    rw [id, List.drop_drop, Nat.add_comm (8 * q) n2, show n2 + 8 * q + 8 * a.toNat = n2 + 8 * a.toNat + 8 * q by omega]
  · rw [if_neg h, if_neg (show ¬ n2 + 8 * a.toNat ≤ bs.length - 8 * q by omega)]; rfl
theorem sh_lens : ∀ k xs n, lensG bs k xs (n + 8 * q) = shG q id (lensG (bs.drop (8 * q)) k xs n) := by
  intro k
  induction k with
  | zero => intro xs n; rfl
  | succ k ih =>
    intro xs n
    rw [lensG, lensG]
    exact sh_bind (sh_take hq _ _) fun v n1 => ih _ _
theorem sh_lengths (T : List Int) (N : Nat) : ∀ d l n, N - l.length ≤ d → lengthsG bs T N l (n + 8 * q) = shG q id (lengthsG (bs.drop (8 * q)) T N l n) := by
  intro d
  induction d with
  | zero => intro l n hd; rw [lengthsG, dif_pos (by omega), lengthsG, dif_pos (by omega)]; rfl
  | succ d ih =>
    intro l n hd
    by_cases hN : N ≤ l.length
    · rw [lengthsG, dif_pos hN, lengthsG, dif_pos hN]; rfl
    · rw [lengthsG, dif_neg hN]
      conv => rhs; rw [lengthsG, dif_neg hN]
      refine sh_bind (sh_sym _ _) fun c n1 => ?_
      simp only [id]
      refine sh_ite (fun _ => ih _ _ (by simp; omega)) fun _ => sh_ite (fun _ => sh_ite (fun _ => rfl) fun _ => ?_) fun _ => sh_ite (fun _ => ?_) fun _ => ?_
      all_goals exact sh_bind (sh_take hq _ _) fun v n2 => sh_ite (fun _ => rfl) fun _ => ih _ _ (by simp; omega)
theorem sh_codes (n : Nat) : codesG bs (n + 8 * q) = shG q id (codesG (bs.drop (8 * q)) n) := by
  unfold codesG
  refine sh_bind (sh_take hq _ _) fun a n1 => sh_bind (sh_take hq _ _) fun b n2 => sh_bind (sh_take hq _ _) fun c n3 => ?_
  simp only [id]
  refine sh_ite (fun _ => rfl) fun _ => sh_bind (sh_lens hq _ _ _) fun xs n4 => ?_
  simp only [id]
  refine sh_ite (fun _ => sh_bind (sh_lengths hq _ _ _ _ _ (Nat.le_refl _)) fun l n5 => ?_) fun _ => rfl
  simp only [id]
  exact sh_ite (fun _ => rfl) fun _ => rfl
theorem sh_tok (most : Int) (L D out : List Int) (n : Nat) : tokG bs most L D out (n + 8 * q) = shG q id (tokG (bs.drop (8 * q)) most L D out n) := by
  unfold tokG
  refine sh_bind (sh_sym _ _) fun c n1 => ?_
  simp only [id]
  refine sh_ite (fun _ => rfl) fun _ => sh_ite (fun _ => sh_ite (fun _ => rfl) fun _ => rfl) fun _ => sh_ite (fun _ => rfl) fun _ => ?_
  refine sh_bind (sh_take hq _ _) fun v n2 => sh_bind (sh_sym _ _) fun k n3 => ?_
  simp only [id]
  refine sh_ite (fun _ => rfl) fun _ => sh_bind (sh_take hq _ _) fun u n4 => ?_
  simp only [id]
  exact sh_ite (fun _ => rfl) fun _ => sh_ite (fun _ => rfl) fun _ => rfl
/-- Where it stands, from further ahead. -/
def shI (q : Nat) (st : Inf) : Inf := ⟨st.n + 8 * q, st.out, st.tab, st.last⟩
theorem sh_step (most : Int) (st : Inf) : stepG bs most (shI q st) = shG q (shI q) (stepG (bs.drop (8 * q)) most st) := by
  unfold stepG
  have e1 : (shI q st).tab = st.tab := rfl
  rw [e1]
  cases st.tab with
  | none =>
    simp only
    unfold headG
    refine sh_bind (sh_take hq _ _) fun a n1 => sh_bind (sh_take hq _ _) fun k n2 => ?_
    simp only [id]
    refine sh_ite (fun _ => sh_bind (sh_stored hq _ _ _) fun o n3 => rfl) fun _ => sh_ite (fun _ => rfl) fun _ => sh_ite (fun _ => sh_bind (sh_codes hq _) fun t n3 => rfl) fun _ => rfl
  | some t =>
    simp only
    refine sh_bind (sh_tok hq _ _ _ _ _) fun r n1 => ?_
    cases r with
    | none => rfl
    | some o => rfl
end

/-! ### what there is only grows -/
theorem copyN_pre (d : Nat) (out : List Int) : ∀ k, out <+: copyN d out k := by
  intro k
  induction k with
  | zero => exact List.prefix_refl _
  | succ k ih => rw [copyN]; exact ih.trans (List.prefix_append _ _)
theorem stored_pre {bs : List Bool} {most : Int} {out o : List Int} {n m : Nat} (h : storedG bs most out n = .ok o m) : out <+: o := by
  unfold storedG at h
  obtain ⟨a, n1, -, h⟩ := Got.bind_inv h
  obtain ⟨b, n2, -, h⟩ := Got.bind_inv h
  split at h
  · split at h
    · split at h
      · cases h
      · cases h; exact List.prefix_append _ _
    · cases h
  · cases h
theorem tok_pre {bs : List Bool} {most : Int} {L D out o : List Int} {n m : Nat} (h : tokG bs most L D out n = .ok (some o) m) : out <+: o := by
  unfold tokG at h
  obtain ⟨c, n1, -, h⟩ := Got.bind_inv h
  split at h
  · cases h
  · split at h
    · split at h
      · cases h
      · cases h; exact List.prefix_append _ _
    · split at h
      · cases h
      · obtain ⟨v, n2, -, h⟩ := Got.bind_inv h
        obtain ⟨k, n3, -, h⟩ := Got.bind_inv h
        split at h
        · cases h
        · obtain ⟨u, n4, -, h⟩ := Got.bind_inv h
          split at h
          · cases h
          · split at h
            · cases h
            · cases h; exact copyN_pre _ _ _
theorem step_pre {bs : List Bool} {most : Int} {st st' : Inf} {m : Nat} (h : stepG bs most st = .ok st' m) : st.out <+: st'.out := by
  unfold stepG at h
  cases ht : st.tab with
  | none =>
    rw [ht] at h
    simp only at h
    unfold headG at h
    obtain ⟨a, n1, -, h⟩ := Got.bind_inv h
    obtain ⟨k, n2, -, h⟩ := Got.bind_inv h
    split at h
    · obtain ⟨o, n3, h1, h⟩ := Got.bind_inv h; cases h; exact stored_pre h1
    · split at h
      · cases h; exact List.prefix_refl _
      · split at h
        · obtain ⟨o, n3, h1, h⟩ := Got.bind_inv h; cases h; exact List.prefix_refl _
        · cases h
  | some t =>
    rw [ht] at h
    simp only at h
    obtain ⟨r, n1, h1, h⟩ := Got.bind_inv h
    cases r with
    | none => cases h; exact List.prefix_refl _
    | some o => cases h; exact tok_pre h1
theorem steps_pre {bs : List Bool} {most : Int} {a b : Inf} (h : Steps bs most a b) : a.out <+: b.out := by
  induction h with
  | refl => exact List.prefix_refl _
  | step hd hs _ ih => exact (step_pre hs).trans ih

/-! ### along one way -/
/-- Where one stands on the way to an end; less of the bits leads there too, or runs out. -/
theorem steps_one {bs : List Bool} {most : Int} {a b f : Inf} {m : Nat} (hm : m ≤ bs.length) (h : Steps (bs.take m) most a b) : a.n ≤ m → Steps bs most a f → f.done = true → Steps bs most a b ∧ Steps bs most b f ∧ b.n ≤ m := by
  induction h with
  | refl => intro ha h1 _; exact ⟨.refl _, h1, ha⟩
  | step hd hs _ ih =>
    rename_i a b c m1 _
    intro ha h1 h2
    cases h1 with
    | refl => rw [hd] at h2; cases h2
    | step hd' hs' hr =>
      rename_i b' m2
      have hc := cut_step (most := most) (st := a) hm (by omega) _ _ hs'
      rcases Nat.lt_or_ge m m2 with h9 | h9
      · rw [hc.2 h9] at hs; cases hs
      · rw [hc.1 h9] at hs
        cases hs
        have e := step_n hs'
        obtain ⟨i1, i2, i3⟩ := ih (by omega) hr h2
        exact ⟨.step hd' hs' i1, i2, i3⟩
/-- On the way to an end there is no fault. -/
theorem steps_nbad {bs : List Bool} {most : Int} {b f : Inf} {m : Nat} {e : Int} (hm : m ≤ bs.length) (hb : b.n ≤ m) (h : Steps bs most b f) (hf : f.done = true) (hd : b.done = false) : stepG (bs.take m) most b ≠ .bad e := by
  intro hs
  cases h with
  | refl => rw [hf] at hd; cases hd
  | step hd' hs' hr =>
    rename_i b' m2
    have hc := cut_step (most := most) (st := b) hm (by omega) _ _ hs'
    rcases Nat.lt_or_ge m m2 with h9 | h9
    · rw [hc.2 h9] at hs; cases hs
    · rw [hc.1 h9] at hs; cases hs
/-- .. nor do all the bits run out. -/
theorem steps_nran {bs : List Bool} {most : Int} {b f : Inf} (h : Steps bs most b f) (hf : f.done = true) (hd : b.done = false) : stepG bs most b ≠ .ran := by
  intro hs
  cases h with
  | refl => rw [hf] at hd; cases hd
  | step hd' hs' hr => rw [hs'] at hs; cases hs
theorem steps_done {bs : List Bool} {most : Int} {b f : Inf} (h : Steps bs most b f) (hd : b.done = true) : b = f := by
  cases h with
  | refl => rfl
  | step hd' hs' hr => rw [hd] at hd'; cases hd'
end Go.Proofs.Ytljejkdkjnbmhaa
/- stream: faults, plainly. No program in sight. (Written by tools/sts.py.) -/
namespace Go.Proofs.Ytljejkdkjnbmhaa

theorem bind_npos {α β : Type} {g : Got α} {f : α → Nat → Got β} (h1 : ∀ e, g = .bad e → 0 < e) (h2 : ∀ v n e, f v n = .bad e → 0 < e) : ∀ e, g.bind f = .bad e → 0 < e := by
  intro e h
  cases g with
  | ok v n => exact h2 v n e h
  | ran => cases h
  | bad e0 => cases h; exact h1 _ rfl
theorem take_npos {bs : List Bool} {k n : Nat} : ∀ e, takeG bs k n = .bad e → 0 < e := by
  intro e h
  unfold takeG at h
  split at h <;> cases h
theorem sym_npos {bs : List Bool} {T : List Int} {n : Nat} : ∀ e, symG bs T n = .bad e → 0 < e := by
  intro e h
  unfold symG at h
  split at h
  · cases h
  · split at h
    · cases h
    · cases h; decide
theorem lengths_npos {bs : List Bool} {T : List Int} {N : Nat} : ∀ d l n, N - l.length ≤ d → ∀ e, lengthsG bs T N l n = .bad e → 0 < e := by
  intro d
  induction d with
  | zero => intro l n hd e h; rw [lengthsG, dif_pos (by omega)] at h; cases h
  | succ d ih =>
    intro l n hd e h
    rw [lengthsG] at h
    split at h
    · cases h
    · next hN =>
      refine bind_npos sym_npos (fun c n1 => ?_) e h
      intro e h
      split at h
      · exact ih _ _ (by simp; omega) e h
      · split at h
        · split at h
          · cases h; decide
          · refine bind_npos take_npos (fun v n2 => ?_) e h
            intro e h
            split at h
            · cases h; decide
            · exact ih _ _ (by simp; omega) e h
        · split at h
          · refine bind_npos take_npos (fun v n2 => ?_) e h
            intro e h
            split at h
            · cases h; decide
            · exact ih _ _ (by simp; omega) e h
          · refine bind_npos take_npos (fun v n2 => ?_) e h
            intro e h
            split at h
            · cases h; decide
            · exact ih _ _ (by simp; omega) e h
theorem ite_npos {α : Type} {c : Prop} [Decidable c] {a b : Got α} (h1 : ∀ e, a = .bad e → 0 < e) (h2 : ∀ e, b = .bad e → 0 < e) : ∀ e, (if c then a else b) = .bad e → 0 < e := by
  intro e h
  split at h
  · exact h1 e h
  · exact h2 e h
theorem ok_npos {α : Type} {v : α} {n : Nat} : ∀ e, (Got.ok v n) = .bad e → 0 < e := fun e h => by cases h
theorem bad_npos {α : Type} {e0 : Int} (h : 0 < e0) : ∀ e, (Got.bad e0 : Got α) = .bad e → 0 < e := fun e he => by cases he; exact h
theorem len_npos {bs : List Bool} {c : Int} {n : Nat} : ∀ e, lenG bs c n = .bad e → 0 < e := by
  unfold lenG
  exact ite_npos (bad_npos (by decide)) (bind_npos take_npos fun _ _ => ok_npos)
theorem dist_npos {bs : List Bool} {c : Int} {n : Nat} : ∀ e, distG bs c n = .bad e → 0 < e := by
  unfold distG
  exact ite_npos (bad_npos (by decide)) (bind_npos take_npos fun _ _ => ok_npos)
theorem tok_npos {bs : List Bool} {most : Int} {L D out : List Int} {n : Nat} : ∀ e, tokG bs most L D out n = .bad e → 0 < e := by
  rw [tokG_eq]
  exact bind_npos sym_npos fun _ _ => ite_npos ok_npos (ite_npos (ite_npos (bad_npos (by decide)) ok_npos) (bind_npos len_npos fun _ _ => bind_npos sym_npos fun _ _ => bind_npos dist_npos fun _ _ => ite_npos (bad_npos (by decide)) (ite_npos (bad_npos (by decide)) ok_npos)))
theorem stored_npos {bs : List Bool} {most : Int} {out : List Int} {n : Nat} : ∀ e, storedG bs most out n = .bad e → 0 < e := by
  unfold storedG
  exact bind_npos take_npos fun _ _ => bind_npos take_npos fun _ _ => ite_npos (ite_npos (ite_npos (bad_npos (by decide)) ok_npos) (fun e h => by cases h)) (bad_npos (by decide))
theorem lens_npos {bs : List Bool} : ∀ k xs n e, lensG bs k xs n = .bad e → 0 < e := by
  intro k
  induction k with
  | zero => intro xs n e h; cases h
  | succ k ih => intro xs n; exact bind_npos take_npos fun _ _ => ih _ _
theorem codes_npos {bs : List Bool} {n : Nat} : ∀ e, codesG bs n = .bad e → 0 < e := by
  rw [codesG_eq]
  refine bind_npos take_npos fun _ _ => bind_npos take_npos fun _ _ => bind_npos take_npos fun _ _ => ite_npos (bad_npos (by decide)) (bind_npos (lens_npos _ _ _) fun _ _ => ?_)
  unfold codesC
  exact ite_npos (bind_npos (lengths_npos _ _ _ (Nat.le_refl _)) fun _ _ => ite_npos ok_npos (bad_npos (by decide))) (bad_npos (by decide))
theorem head_npos {bs : List Bool} {most : Int} {st : Inf} : ∀ e, headG bs most st = .bad e → 0 < e := by
  unfold headG
  exact bind_npos take_npos fun _ _ => bind_npos take_npos fun _ _ => ite_npos (bind_npos stored_npos fun _ _ => ok_npos) (ite_npos ok_npos (ite_npos (bind_npos codes_npos fun _ _ => ok_npos) (bad_npos (by decide))))
theorem step_npos {bs : List Bool} {most : Int} {st : Inf} : ∀ e, stepG bs most st = .bad e → 0 < e := by
  unfold stepG
  cases st.tab with
  | none => exact head_npos
  | some t =>
    refine bind_npos tok_npos fun r n => ?_
    cases r with
    | none => exact ok_npos
    | some o => exact ok_npos
end Go.Proofs.Ytljejkdkjnbmhaa
/- bits.New. -/
namespace Go.Proofs.Ytljejkdkjnbmhaa
open Go.RowKit

set_option maxHeartbeats 400000 in
theorem bnew_any {w0 w : World} {ps : List Piece} (s : ByteArray) (H : Own w0 w ps) :
    Calls Try.prog 13 #[.string s] w (Ret fun v w' => ∃ g, v = .pointer (some ⟨g, 0, none⟩) ∧ Own w0 w' (Rdr g s 0 :: ps)) := by
  go_enter Try.func13, Try.ntmps13
  go_wp2
  go_ret
  exact ⟨_, rfl, _, rfl, H.alloc _⟩
end Go.Proofs.Ytljejkdkjnbmhaa
/- stream: the reader, where it stands; the walks of New, Done. -/
namespace Go.Proofs.Ytljejkdkjnbmhaa
open Go.RowKit

/-- A reader: what has come, how many bytes were told, where it stands, the fault. -/
def StP (gr : Nat) (A : ByteArray) (most : Int) (told : Nat) (st : Inf) (e : Int) : Piece := ex fun lit => ex fun dist =>
  star (StR gr ⟨A.extract (st.n / 8) A.size, ((st.n % 8 : Nat) : Int), ((st.n / 8 : Nat) : Int), st.out, most, (told : Int), st.tab.isSome, st.last, lit, dist, e, st.done⟩) (TabP lit dist st.tab)
theorem Own.stp {w0 w : World} {ps : List Piece} {gr told : Nat} {A : ByteArray} {most e : Int} {st : Inf} (H : Own w0 w (StP gr A most told st e :: ps)) :
    ∃ lit dist, Own w0 w (StR gr ⟨A.extract (st.n / 8) A.size, ((st.n % 8 : Nat) : Int), ((st.n / 8 : Nat) : Int), st.out, most, (told : Int), st.tab.isSome, st.last, lit, dist, e, st.done⟩ :: TabP lit dist st.tab :: ps) := by
  obtain ⟨lit, H⟩ := H.ex
  obtain ⟨dist, H⟩ := H.ex
  exact ⟨lit, dist, H.star⟩
theorem unstp {w0 w : World} {ps : List Piece} {gr told : Nat} {A : ByteArray} {most e : Int} {st : Inf} {lit dist : Value} (H : Own w0 w (StR gr ⟨A.extract (st.n / 8) A.size, ((st.n % 8 : Nat) : Int), ((st.n / 8 : Nat) : Int), st.out, most, (told : Int), st.tab.isSome, st.last, lit, dist, e, st.done⟩ :: TabP lit dist st.tab :: ps)) : Own w0 w (StP gr A most told st e :: ps) :=
  Own.unex (f := fun lit => ex fun dist => star (StR gr ⟨A.extract (st.n / 8) A.size, ((st.n % 8 : Nat) : Int), ((st.n / 8 : Nat) : Int), st.out, most, (told : Int), st.tab.isSome, st.last, lit, dist, e, st.done⟩) (TabP lit dist st.tab)) lit
    (Own.unex (f := fun dist => star (StR gr ⟨A.extract (st.n / 8) A.size, ((st.n % 8 : Nat) : Int), ((st.n / 8 : Nat) : Int), st.out, most, (told : Int), st.tab.isSome, st.last, lit, dist, e, st.done⟩) (TabP lit dist st.tab)) dist H.unstar)

set_option maxRecDepth 100000 in
set_option maxHeartbeats 800000 in
theorem stnew_any {w0 w : World} {ps : List Piece} (most : Int) (hm : 0 ≤ most) (H : Own w0 w ps) : Calls Try.prog 11 #[.int .i64 most] w (Ret fun r w' => ∃ g, r = .pointer (some ⟨g, 0, none⟩) ∧ Own w0 w' (StP g ByteArray.empty most 0 Inf.init 0 :: ps)) := by
  have h1 : ¬ most < 0 := by omega
  have HA := H.alloc (.cells #[.string ByteArray.empty, .int .i64 0, .int .i64 0, .slice none 0 0, .int .i64 most, .int .i64 0, .bool false, .bool false, .pointer none, .pointer none, .int .i64 0, .bool false] 40)
  go_enter Try.func11, Try.ntmps11
  go_wp2
  go_ret
  refine ⟨_, rfl, _, rfl, unstp (lit := .pointer none) (dist := .pointer none) ?_⟩
  have H2 := HA.nil 5 1
  exact (tabp_none (Own.unstr (out := []) H2.swap rfl)).front 1 rfl
set_option maxRecDepth 100000 in
set_option maxHeartbeats 800000 in
theorem stdone_any {w0 w : World} {ps : List Piece} {gr told : Nat} {A : ByteArray} {most e : Int} {st : Inf} (hn : st.n ≤ 80000000) (H : Own w0 w (StP gr A most told st e :: ps)) :
    Calls Try.prog 7 #[.pointer (some ⟨gr, 0, none⟩)] w (Ret fun r w' => r = .tuple #[.int .i64 (if st.done then nbytes st.n else 0 : Nat), .bool st.done] ∧ w' = w) := by
  obtain ⟨lit, dist, H⟩ := H.stp
  obtain ⟨sa, sc, h1, h2, HR⟩ := H.str
  have c0 := HR.cells
  clear H HR
  cases hd : st.done with
  | false =>
    rw [hd] at c0
    rw [if_neg (by decide)]
    go_enter Try.func7, Try.ntmps7
    go_wp2
    go_ret2
    exact ⟨_, rfl, rfl, rfl⟩
  | true =>
    rw [hd] at c0
    rw [if_pos rfl]
    obtain ⟨q, hq⟩ : ∃ q, Hid (st.n / 8 = q) := ⟨_, rfl⟩
    obtain ⟨b, hb⟩ : ∃ b, Hid (st.n % 8 = b) := ⟨_, rfl⟩
    obtain ⟨z, hz⟩ : ∃ z, Hid (nbytes st.n = z) := ⟨_, rfl⟩
    rw [hq.out, hb.out] at c0
    rw [hz.out]
    have hcase : Hid (b = 0 ∧ z = q ∨ 0 < b ∧ z = q + 1) := Lib.hid (by have := hq.out; have := hb.out; have := hz.out; unfold nbytes at this; omega)
    have hqb : q ≤ 10000000 := by have := hq.out; omega
    rcases hcase.out with ⟨rfl, rfl⟩ | ⟨hb0, rfl⟩
    · clear hcase
      go_enter Try.func7, Try.ntmps7
      go_wp2
      go_ret2
      exact ⟨_, rfl, rfl, rfl⟩
    · clear hcase
      have hb1 : (0 : Int) < (b : Int) := by omega
      have hw : IntKind.i64.wrap ((q : Int) + 1) = (q : Int) + 1 := IntWalk.i64_in _ ⟨by omega, by omega⟩
      go_enter Try.func7, Try.ntmps7
      go_wp2
      go_ret2
      exact ⟨_, rfl, by first | rfl | (congr 1), rfl⟩
end Go.Proofs.Ytljejkdkjnbmhaa
/- inflate: a lower limit, and bytes that are cut off, plainly. No program in sight. -/
namespace Go.Proofs.Ytljejkdkjnbmhaa

/-- With a lower limit: the same if it fits, or a fault. -/
def LimOk {α : Type} (len : α → Nat) (most' : Int) (g g' : Got α) : Prop := ∀ v n, g = .ok v n → ((len v : Int) ≤ most' → g' = .ok v n) ∧ (most' < len v → g' = .bad 12)
def lenO (n : Nat) : Option (List Int) → Nat
  | none => n
  | some o => o.length
end Go.Proofs.Ytljejkdkjnbmhaa
/- flate: the walks of what tells symbols. -/
namespace Go.Proofs.Ytljejkdkjnbmhaa
open Go.RowKit

end Go.Proofs.Ytljejkdkjnbmhaa
/- Bits: Writer.Put. -/
namespace Go.Proofs.Ytljejkdkjnbmhaa
open Go.RowKit

end Go.Proofs.Ytljejkdkjnbmhaa
/- Bits: Writer.Code. -/
namespace Go.Proofs.Ytljejkdkjnbmhaa
open Go.RowKit

end Go.Proofs.Ytljejkdkjnbmhaa
/- flate: the walks of head, made, put. -/
namespace Go.Proofs.Ytljejkdkjnbmhaa
open Go.RowKit

/-- What reads so wherever ps is owned. -/
def Reads (w0 : World) (ps : List Piece) (size : Nat) (v : Value) (n : Nat) (xs : List Value) : Prop := ∀ w', Own w0 w' ps → Rd w' size v n xs
/-- A code: lengths, and codes, that are read. -/
structure CodOk (w0 : World) (ps : List Piece) (v u : Value) (L : List Int) : Prop where
  len : Reads w0 ps 1 v L.length (nums L)
  cod : Reads w0 ps 1 u L.length (nums (codesF L))
  all : ∀ x ∈ L, 0 ≤ x ∧ x ≤ 15
  wt : sumF wtF L ≤ 2 ^ 15
  few : L.length ≤ 320
end Go.Proofs.Ytljejkdkjnbmhaa
/- flate: the walk of body. -/
namespace Go.Proofs.Ytljejkdkjnbmhaa
open Go.RowKit

def SymOk (L D : List Int) (t : Tok) : Prop := TokOk t ∧ (t.len = 0 → t.lit.toNat < L.length) ∧ (t.len ≠ 0 → (lenSym t.len.toNat).1 < L.length ∧ (distSym t.dist.toNat).1 < D.length)
end Go.Proofs.Ytljejkdkjnbmhaa
/- flate: the walks of trim, counted. -/
namespace Go.Proofs.Ytljejkdkjnbmhaa
open Go.RowKit

def litN (l : List Tok) (k : Nat) : List Int := litFq (l.take k)
def distN (l : List Tok) (k : Nat) : List Int := distFq (l.take k)
end Go.Proofs.Ytljejkdkjnbmhaa
/- flate: the walk of runs. -/
namespace Go.Proofs.Ytljejkdkjnbmhaa
open Go.RowKit

def rcell (r : Run) : List Value := [.int .i64 r.sym, .int .i64 r.n, .int .i64 r.v]
section
variable {w0 w : World} {ps : List Piece} {e : TypeId} {size n : Nat} {v : Value} {xs : List Value} {P : Program} {t : TypeId} {z : Value} {bytes : Nat}
end

end Go.Proofs.Ytljejkdkjnbmhaa
/- The stable sort of slices of ints: the walks of swapRange, rotate. (Written by tools/srt.py.) -/
namespace Go.Proofs.Ytljejkdkjnbmhaa
open Go.RowKit

namespace SI
def ie (x : Int) : List Value := [.int .i64 x]
/-- A slice of them. -/
abbrev Sl (v : Value) (l : List Int) : Piece := slc 3 1 v l.length (rows ie l)
section
variable {w0 w : World} {ps : List Piece}
end
end SI
end Go.Proofs.Ytljejkdkjnbmhaa
/- The stable sort of slices of ints: the walk of rotate. (Written by tools/srt.py.) -/
namespace Go.Proofs.Ytljejkdkjnbmhaa
open Go.RowKit
namespace SI
section
variable {w0 w : World} {ps : List Piece}
end
end SI
end Go.Proofs.Ytljejkdkjnbmhaa
/- The stable sort of slices of ints: the walk of insertionSort. (Written by tools/srt.py.) -/
namespace Go.Proofs.Ytljejkdkjnbmhaa
open Go.RowKit
namespace SI
/-- The function that compares. -/
abbrev cf (B : Nat) : Value := .func (.func 73) #[] #[.pointer (some ⟨B, 0, none⟩)]
abbrev ca (B : Nat) (x y : Int) : Array Value := #[.int .i64 x, .int .i64 y, .pointer (some ⟨B, 0, none⟩)]
abbrev cg : Nat := 73
/-- What is asked of it. -/
def Cmps (w0 : World) (ps : List Piece) (B : Nat) (ok : Int → Prop) (key : Int → Int) : Prop :=
  ∀ (wz : World) (row : Piece), Own w0 wz (row :: ps) → ∀ x y, ok x → ok y → Calls Try.prog cg (ca B x y) wz (Ret fun v w' => v = .int .i64 (cmpI (key x) (key y)) ∧ Own wz w' [])
section
variable {w0 w : World} {ps : List Piece} {ok : Int → Prop} {key : Int → Int} {B : Nat}
end
end SI
end Go.Proofs.Ytljejkdkjnbmhaa
/- The stable sort of slices of ints: the walk of symMerge, where one part is of one. (Written by tools/srt.py.) -/
namespace Go.Proofs.Ytljejkdkjnbmhaa
open Go.RowKit
namespace SI
section
variable {w0 w : World} {ps : List Piece} {ok : Int → Prop} {key : Int → Int} {B : Nat}
end
end SI
end Go.Proofs.Ytljejkdkjnbmhaa
/- The stable sort of slices of ints: the walk of symMerge, where the second part is of one. (Written by tools/srt.py.) -/
namespace Go.Proofs.Ytljejkdkjnbmhaa
open Go.RowKit
namespace SI
section
variable {w0 w : World} {ps : List Piece} {ok : Int → Prop} {key : Int → Int} {B : Nat}
end
end SI
end Go.Proofs.Ytljejkdkjnbmhaa
/- The stable sort of slices of ints: the walk of symMerge: what comes behind the search. (Written by tools/srt.py.) -/
namespace Go.Proofs.Ytljejkdkjnbmhaa
open Go.RowKit
namespace SI
noncomputable def symTail (r : Nat) : Code := ((Try.f86.body.bind (fromR r)).getD .skip)
/-- What symMerge does with two parts of f elements at most. -/
def SymAt (w0 : World) (ps : List Piece) (ok : Int → Prop) (key : Int → Int) (B g c N f : Nat) : Prop :=
  ∀ (w : World) (p x y q : List Int) (a m b : Nat), x.length + y.length ≤ f → (∀ v ∈ x, ok v) → (∀ v ∈ y, ok v) → Srt key x → Srt key y → a = p.length → m = a + x.length → b = m + y.length → 0 < x.length → 0 < y.length → N = (p ++ x ++ y ++ q).length →
    Own w0 w (slc 3 1 (.slice (some ⟨g, 0, none⟩) N c) N (rows ie (p ++ x ++ y ++ q)) :: ps) →
    Calls Try.prog 86 #[.slice (some ⟨g, 0, none⟩) N c, .int .i64 a, .int .i64 m, .int .i64 b, cf B] w (Ret fun _ w' => ∃ z, Mrg key x y z ∧ Own w0 w' (slc 3 1 (.slice (some ⟨g, 0, none⟩) N c) N (rows ie (p ++ z ++ q)) :: ps))
section
variable {w0 : World} {ps : List Piece} {ok : Int → Prop} {key : Int → Int} {B : Nat}
end
end SI
end Go.Proofs.Ytljejkdkjnbmhaa
/- The stable sort of slices of ints: the walk of symMerge. (Written by tools/srt.py.) -/
namespace Go.Proofs.Ytljejkdkjnbmhaa
open Go.RowKit
namespace SI
section
variable {w0 : World} {ps : List Piece} {ok : Int → Prop} {key : Int → Int} {B : Nat}
end
end SI
end Go.Proofs.Ytljejkdkjnbmhaa
/- Stable sorts, plainly: lists of sorted blocks. No program in sight. -/
namespace Go.Proofs.Ytljejkdkjnbmhaa

section
variable {α : Type} {key : α → Int}
/-- Sorted blocks, each of b. -/
inductive FullC (key : α → Int) (b : Nat) : List α → Prop
  | nil : FullC key b []
  | cons {x r : List α} : x.length = b → Srt key x → FullC key b r → FullC key b (x ++ r)
end
end Go.Proofs.Ytljejkdkjnbmhaa
/- The stable sort of slices of ints: the walk of stable. (Written by tools/srt.py.) -/
namespace Go.Proofs.Ytljejkdkjnbmhaa
open Go.RowKit
namespace SI
section
variable {w0 w : World} {ps : List Piece} {ok : Int → Prop} {key : Int → Int} {B : Nat}
end
end SI
end Go.Proofs.Ytljejkdkjnbmhaa
/- The stable sort of slices of coins: the walk of rotate. (Written by tools/srt.py.) -/
namespace Go.Proofs.Ytljejkdkjnbmhaa
open Go.RowKit
namespace SC
section
variable {w0 w : World} {ps : List Piece}
end
end SC
end Go.Proofs.Ytljejkdkjnbmhaa
/- The stable sort of slices of coins: the walk of insertionSort. (Written by tools/srt.py.) -/
namespace Go.Proofs.Ytljejkdkjnbmhaa
open Go.RowKit
namespace SC
/-- The function that compares. -/
abbrev cf (_B : Nat) : Value := .func (.func 84) #[] #[]
abbrev ca (_B : Nat) (x y : Coin) : Array Value := #[cval x, cval y]
abbrev cg : Nat := 84
/-- What is asked of it. -/
def Cmps (w0 : World) (ps : List Piece) (B : Nat) (ok : Coin → Prop) (key : Coin → Int) : Prop :=
  ∀ (wz : World) (row : Piece), Own w0 wz (row :: ps) → ∀ x y, ok x → ok y → Calls Try.prog cg (ca B x y) wz (Ret fun v w' => v = .int .i64 (cmpI (key x) (key y)) ∧ Own wz w' [])
section
variable {w0 w : World} {ps : List Piece} {ok : Coin → Prop} {key : Coin → Int} {B : Nat}
end
end SC
end Go.Proofs.Ytljejkdkjnbmhaa
/- The stable sort of slices of coins: the walk of symMerge, where one part is of one. (Written by tools/srt.py.) -/
namespace Go.Proofs.Ytljejkdkjnbmhaa
open Go.RowKit
namespace SC
section
variable {w0 w : World} {ps : List Piece} {ok : Coin → Prop} {key : Coin → Int} {B : Nat}
end
end SC
end Go.Proofs.Ytljejkdkjnbmhaa
/- The stable sort of slices of coins: the walk of symMerge, where the second part is of one. (Written by tools/srt.py.) -/
namespace Go.Proofs.Ytljejkdkjnbmhaa
open Go.RowKit
namespace SC
section
variable {w0 w : World} {ps : List Piece} {ok : Coin → Prop} {key : Coin → Int} {B : Nat}
end
end SC
end Go.Proofs.Ytljejkdkjnbmhaa
/- The stable sort of slices of coins: the walk of symMerge: what comes behind the search. (Written by tools/srt.py.) -/
namespace Go.Proofs.Ytljejkdkjnbmhaa
open Go.RowKit
namespace SC
noncomputable def symTail (r : Nat) : Code := ((Try.f90.body.bind (fromR r)).getD .skip)
/-- What symMerge does with two parts of f elements at most. -/
def SymAt (w0 : World) (ps : List Piece) (ok : Coin → Prop) (key : Coin → Int) (B g c N f : Nat) : Prop :=
  ∀ (w : World) (p x y q : List Coin) (a m b : Nat), x.length + y.length ≤ f → (∀ v ∈ x, ok v) → (∀ v ∈ y, ok v) → Srt key x → Srt key y → a = p.length → m = a + x.length → b = m + y.length → 0 < x.length → 0 < y.length → N = (p ++ x ++ y ++ q).length →
    Own w0 w (slc 124 2 (.slice (some ⟨g, 0, none⟩) N c) N (rows ce (p ++ x ++ y ++ q)) :: ps) →
    Calls Try.prog 90 #[.slice (some ⟨g, 0, none⟩) N c, .int .i64 a, .int .i64 m, .int .i64 b, cf B] w (Ret fun _ w' => ∃ z, Mrg key x y z ∧ Own w0 w' (slc 124 2 (.slice (some ⟨g, 0, none⟩) N c) N (rows ce (p ++ z ++ q)) :: ps))
section
variable {w0 : World} {ps : List Piece} {ok : Coin → Prop} {key : Coin → Int} {B : Nat}
end
end SC
end Go.Proofs.Ytljejkdkjnbmhaa
/- The stable sort of slices of coins: the walk of symMerge. (Written by tools/srt.py.) -/
namespace Go.Proofs.Ytljejkdkjnbmhaa
open Go.RowKit
namespace SC
section
variable {w0 : World} {ps : List Piece} {ok : Coin → Prop} {key : Coin → Int} {B : Nat}
end
end SC
end Go.Proofs.Ytljejkdkjnbmhaa
/- The stable sort of slices of coins: the walk of stable. (Written by tools/srt.py.) -/
namespace Go.Proofs.Ytljejkdkjnbmhaa
open Go.RowKit
namespace SC
section
variable {w0 w : World} {ps : List Piece} {ok : Coin → Prop} {key : Coin → Int} {B : Nat}
end
end SC
end Go.Proofs.Ytljejkdkjnbmhaa
/- huff: the walks of what compares. -/
namespace Go.Proofs.Ytljejkdkjnbmhaa
open Go.RowKit

end Go.Proofs.Ytljejkdkjnbmhaa
/- huff: the closure that compares symbols by their frequencies; the sorts. -/
namespace Go.Proofs.Ytljejkdkjnbmhaa
open Go.RowKit

end Go.Proofs.Ytljejkdkjnbmhaa
/- huff: the walks of the sorts, of Clone, row and counted. -/
namespace Go.Proofs.Ytljejkdkjnbmhaa
open Go.RowKit

/-! ### nil -/
/-! ### the sorts -/
end Go.Proofs.Ytljejkdkjnbmhaa
/- huff: the walks of what may not be counted. -/
namespace Go.Proofs.Ytljejkdkjnbmhaa
open Go.RowKit

end Go.Proofs.Ytljejkdkjnbmhaa
/- huff: the walk of Lengths: what comes behind the rows. -/
namespace Go.Proofs.Ytljejkdkjnbmhaa
open Go.RowKit

/-- Of the text of Lengths, from a region on. -/
noncomputable def lenTail (r : Nat) : Code := ((Try.f57.body.bind (fromR r)).getD .skip)
/-- The pieces of the rows. -/
def rowPs (base : List Coin) (f : Nat → Value) : Nat → List Piece
  | 0 => []
  | k + 1 => slc 124 2 (f k) (rowsF base k).length (rows ce (rowsF base k)) :: rowPs base f k
/-- What is taken, of m rows. -/
def cntM (base : List Coin) : Nat → Nat → List Nat
  | 0, _ => []
  | m + 1, n => (n - npF (rowsF base m) n) :: cntM base m (2 * npF (rowsF base m) n)
end Go.Proofs.Ytljejkdkjnbmhaa
/- huff: the walk of Lengths: the rows. -/
namespace Go.Proofs.Ytljejkdkjnbmhaa
open Go.RowKit

end Go.Proofs.Ytljejkdkjnbmhaa
/- huff: the walk of Lengths. -/
namespace Go.Proofs.Ytljejkdkjnbmhaa
open Go.RowKit


end Go.Proofs.Ytljejkdkjnbmhaa
/- flate: the walk of rich: its parts. -/
namespace Go.Proofs.Ytljejkdkjnbmhaa
open Go.RowKit

end Go.Proofs.Ytljejkdkjnbmhaa
/- A map of the call's own whose elements are ints (0 where there is none): a look-up, a store, a delete. No program in sight. -/
namespace Go.Proofs.Ytljejkdkjnbmhaa
open Go.RowKit Go.Maps
open Go.WideElems (Fit rg)

/-- The entries, as a datum. -/
def mdat (P : Program) (K E : TypeId) (es : Array MapEntry) : DataW Unit := .map ((es.toList.map (rg P K (plainElem (H := Unit) P E))).foldr DataW.insert [])
/-- A map: by its keys (those that a's are), ints; at most n entries. -/
def mpi (P : Program) (K E : TypeId) {α : Type} (enc : α → Value) (b n : Nat) (g : α → Int) : Piece := fun h =>
  ∃ es clock, h = [(b, .map es clock)] ∧ Fit P K (plainElem (H := Unit) P E) es clock ∧ es.size ≤ n ∧ ∀ a kl, keyOf P K (enc a) = some kl → (mdat P K E es).atKey kl (.lit (.int .i64 0)) = .lit (.int .i64 (g a))

section
variable {P : Program} {K E t : TypeId} {α : Type} {enc : α → Value} {b n : Nat} {g : α → Int} {w0 w : World} {ps : List Piece}
variable [DecidableEq α]
end

section
variable {P : Program} {K E t : TypeId} {α : Type} {enc : α → Value} {b n : Nat} {g : α → Int} {w0 w : World} {ps : List Piece} [DecidableEq α]
variable {ops : Array Oper} {rest : List Oper} {o : Oper} {act : Act} {Q : Exit → Act → World → Prop}
end
end Go.Proofs.Ytljejkdkjnbmhaa
/- lz: the map's keys, three bytes. -/
namespace Go.Proofs.Ytljejkdkjnbmhaa
open Go.RowKit Go.Maps Go.ChangeShapes Go.WideShapes

/-- Three bytes, as a key. -/
def k3 (k : UInt8 × UInt8 × UInt8) : Value := .agg #[.int .u8 k.1.toNat, .int .u8 k.2.1.toNat, .int .u8 k.2.2.toNat]
end Go.Proofs.Ytljejkdkjnbmhaa
/- lz: the walks of the finder's parts that only look. -/
namespace Go.Proofs.Ytljejkdkjnbmhaa
open Go.RowKit

end Go.Proofs.Ytljejkdkjnbmhaa
/- A look-up in a map of ints, in a region that draws its order. -/
namespace Go.Proofs.Ytljejkdkjnbmhaa
open Go.RowKit Go.Maps

section
variable {P : Program} {ops : Array Oper} {S : Sig → World → Prop} {nw : List Nat} {R : Act → Prop} {a : Act} {o : Oper} {rest : List Oper} {i : Nat}
variable {K E t : TypeId} {α : Type} {enc : α → Value} {b n : Nat} {g : α → Int} {w0 : World}
end
end Go.Proofs.Ytljejkdkjnbmhaa
/- lz: the walks of put and find. -/
namespace Go.Proofs.Ytljejkdkjnbmhaa
open Go.RowKit Go.Maps

/-- What the map has. -/
def gOf (s : ByteArray) (i : Nat) : UInt8 × UInt8 × UInt8 → Int := fun k => (prev s k i : Int)
structure Backs (s : ByteArray) (i : Nat) (xs : List Int) : Prop where
  len : xs.length = s.size
  get : ∀ q, q < i → q + 3 ≤ s.size → xs[q]? = some (prev s (key3 s q) q : Int)
/-- A finder that noted the places ahead of i. -/
def Fnd (g : Nat) (s : ByteArray) (i : Nat) : Piece := ex fun p : Nat × Value × List Int =>
  star (blk g (.cells #[.string s, .map (some p.1), p.2.1] 75)) (star (mpi Try.prog 104 3 k3 p.1 i (gOf s i)) (star (slc 3 1 p.2.1 s.size (nums p.2.2)) (fact (Backs s i p.2.2))))
section
variable {w0 w : World} {ps : List Piece} {g b i : Nat} {s : ByteArray} {xs : List Int} {v : Value}
end
end Go.Proofs.Ytljejkdkjnbmhaa
/- lz: the walk of find. -/
namespace Go.Proofs.Ytljejkdkjnbmhaa
open Go.RowKit Go.Maps

end Go.Proofs.Ytljejkdkjnbmhaa
/- lz: the walk of Parse. -/
namespace Go.Proofs.Ytljejkdkjnbmhaa
open Go.RowKit Go.Maps

end Go.Proofs.Ytljejkdkjnbmhaa
/- Bits: a new writer. -/
namespace Go.Proofs.Ytljejkdkjnbmhaa
open Go.RowKit

end Go.Proofs.Ytljejkdkjnbmhaa
/- Bits: Writer.Bytes. -/
namespace Go.Proofs.Ytljejkdkjnbmhaa
open Go.RowKit

end Go.Proofs.Ytljejkdkjnbmhaa
/- flate: the walks of a block by the fixed codes; of Simple. -/
namespace Go.Proofs.Ytljejkdkjnbmhaa
open Go.RowKit

/-- The text packed by the fixed codes. -/
def simpleF (s : ByteArray) : ByteArray := textOf (blockB (parse s) 1 true)
end Go.Proofs.Ytljejkdkjnbmhaa
/- flate: the walk of rich. -/
namespace Go.Proofs.Ytljejkdkjnbmhaa
open Go.RowKit

end Go.Proofs.Ytljejkdkjnbmhaa
/- Bits: Writer.Align. -/
namespace Go.Proofs.Ytljejkdkjnbmhaa
open Go.RowKit

end Go.Proofs.Ytljejkdkjnbmhaa
/- Bits: Writer.Text. -/
namespace Go.Proofs.Ytljejkdkjnbmhaa
open Go.RowKit

end Go.Proofs.Ytljejkdkjnbmhaa
/- flate: the walk of Store. -/
namespace Go.Proofs.Ytljejkdkjnbmhaa
open Go.RowKit

def strLen : Value → Nat | .string t => t.size | _ => 0
def boolNum : Value → Nat | .bool true => 1 | _ => 0
/-- A chunk of a text as it is. -/
def chunkB (last : Bool) (t : ByteArray) (bs : List Bool) : List Bool := aligned (bs ++ headB last 0) ++ (bitsOf (t.size : Int) 16 ++ (bitsOf (65535 - (t.size : Int)) 16 ++ textBits t))
end Go.Proofs.Ytljejkdkjnbmhaa
/- flate: the walks of Block, Rich, Pack. -/
namespace Go.Proofs.Ytljejkdkjnbmhaa
open Go.RowKit

def richF (s : ByteArray) : ByteArray := textOf (blockB (parse s) 2 true)
/-- The shorter of two texts. -/
def shorter (a b : ByteArray) : ByteArray := if b.size < a.size then b else a
def packF (s : ByteArray) : ByteArray := shorter (shorter (textOf (storeF s)) (simpleF s)) (richF s)
end Go.Proofs.Ytljejkdkjnbmhaa
/- inflate: what is packed in each way is unpacked; the examples; plainly. No program in sight. -/
namespace Go.Proofs.Ytljejkdkjnbmhaa

/-- Bits that are unpacked as these bytes. -/
def Unp (bits : List Bool) (most : Int) (res : List Int) : Prop := ∀ bs r, At bs 0 (bits ++ r) → Steps bs most Inf.init ⟨bits.length, res, none, true⟩
/-- A text that is packed in one of the four ways. -/
def Packed (s p : ByteArray) : Prop := ∃ bits, p = textOf bits ∧ Unp bits s.size (byteNums s) ∧ bits.length ≤ 48 * s.size + 20000
/-! ### the examples -/
def finB : Fin' → List Int → Nat → Bool
  | .ok o n, o', n' => decide (o = o') && decide (n = n')
  | _, _, _ => false
def finE : Fin' → Int → Bool
  | .err e, e' => decide (e = e')
  | _, _ => false
end Go.Proofs.Ytljejkdkjnbmhaa
/- inflate: tokens in several blocks, plainly; slices of tokens. -/
namespace Go.Proofs.Ytljejkdkjnbmhaa
open Go.RowKit

/-- Bits that are unpacked as a beginning of the tokens' text, and do not end there. -/
def Pre (most : Int) (l : List Tok) (k : Nat) (bits : List Bool) : Prop :=
  ∃ res, exp most (l.take k) [] = .ok res ∧ (res.length : Int) ≤ most ∧ ∀ bs r, At bs 0 (bits ++ r) → Steps bs most Inf.init ⟨bits.length, res, none, false⟩ ∧ At bs bits.length r
/-- A slice of what is read. -/
theorem Rd.sliced {w : World} {size n k m c : Nat} {a : Option Addr} {xs : List Value} (h : Rd w size (.slice a n c) n xs) (hk : k ≤ m) (hm : m ≤ n) :
    Rd w size (sliced a k m c size) (m - k) ((xs.take (m * size)).drop (k * size)) := by
  have h1 := h.take hm
  cases a with
  | none =>
    obtain ⟨hl, a, c', e, h1, h2, h3, h4⟩ := h
    cases e
    obtain ⟨rfl, rfl⟩ := h3 rfl
    obtain rfl : m = 0 := by omega
    obtain rfl : k = 0 := by omega
    obtain rfl : xs = [] := List.eq_nil_of_length_eq_zero (by simpa using hl)
    simpa [_root_.Go.sliced] using Rd.nil w size
  | some ad =>
    have h2 := h1.tail hk
    unfold _root_.Go.sliced
    by_cases hc : c = k
    · obtain ⟨hl, a, c', e, h1, h2, h3, h4⟩ := h
      cases e
      obtain rfl : m = k := by omega
      rw [if_pos hc, Nat.sub_self, List.drop_eq_nil_of_le (by rw [List.length_take]; omega)]
      exact ⟨by simp, _, _, rfl, by omega, by omega, by simp, fun ad _ j u hu => by simp at hu⟩
    · rw [if_neg hc]
      exact h2
/-- What is packed, in however many bits. -/
def Packed2 (s p : ByteArray) : Prop := ∃ Bs, p = textOf Bs ∧ Unp Bs s.size (byteNums s)
end Go.Proofs.Ytljejkdkjnbmhaa
/- stream: the walk of Feed. -/
namespace Go.Proofs.Ytljejkdkjnbmhaa
open Go.RowKit

/-- How a Feed ends: it is done; the bits ran out; a fault. -/
def FeedEnd (bs : List Bool) (most : Int) (st : Inf) (e : Int) : Prop :=
  (st.done = true ∧ e = 0) ∨ (st.done = false ∧ e = 0 ∧ stepG bs most st = .ran) ∨ (st.done = false ∧ e ≠ 0 ∧ stepG bs most st = .bad e)
/-- While it goes on. -/
def FeedSt (bs : List Bool) (Z : Nat) (most : Int) (told : Nat) (st0 st : Inf) : Prop :=
  Steps bs most st0 st ∧ st.n ≤ 8 * Z ∧ (st.out.length : Int) ≤ most ∧ told ≤ st.out.length
def FeedPost (w0 : World) (ps : List Piece) (gr : Nat) (A : ByteArray) (most : Int) (told : Nat) (st0 : Inf) (r : Value) (w' : World) : Prop :=
  ∃ st e, r = .tuple #[.string (strOfNums (st.out.drop told)), .int .i64 e] ∧ FeedSt (textBits A) A.size most told st0 st ∧ FeedEnd (textBits A) most st e ∧ Own w0 w' (StP gr A most st.out.length st e :: ps)
theorem bits_from (A : ByteArray) (q : Nat) : textBits (A.extract q A.size) = (textBits A).drop (8 * q) := by
  have e1 : ∀ (l : List Int) (j : Nat), (bitsOfNums l).drop (8 * j) = bitsOfNums (l.drop j) := by
    intro l
    induction l with
    | nil => intro j; simp [bitsOfNums]
    | cons x t ih =>
      intro j
      cases j with
      | zero => simp
      | succ j =>
        rw [List.drop_succ_cons, ← ih, bitsOfNums, List.flatMap_cons, show 8 * (j + 1) = (bitsOf x 8).length + 8 * j by rw [bitsOf_length]; omega, ← List.drop_drop, List.drop_left]
        rfl
  unfold textBits
  rw [e1]
  congr 1
  unfold byteNums
  rw [ByteArray.data_extract, Array.toList_extract, List.extract_eq_take_drop, ← List.map_drop, List.take_of_length_le]
  rw [List.length_drop, Array.length_toList]
  exact Nat.le_refl _
theorem ext_app {A x : ByteArray} {q : Nat} (h : q ≤ A.size) : A.extract q A.size ++ x = (A ++ x).extract q (A ++ x).size := by
  rw [ByteArray.extract_append, ByteArray.size_append, Nat.sub_eq_zero_of_le h]
  have e1 : A.extract q A.size = A.extract q (A.size + x.size) := by
    apply ByteArray.ext
    rw [ByteArray.data_extract, ByteArray.data_extract]
    apply Array.toList_inj.1
    rw [Array.toList_extract, Array.toList_extract, List.extract_eq_take_drop, List.extract_eq_take_drop, List.take_of_length_le, List.take_of_length_le]
    · rw [List.length_drop, Array.length_toList]; show A.size - q ≤ _; omega
    · rw [List.length_drop, Array.length_toList]; exact Nat.le_refl _
  have e2 : x.extract 0 (A.size + x.size - A.size) = x := by
    rw [Nat.add_sub_cancel_left, ByteArray.extract_zero_size]
  first
    | rw [← e1, e2]
    | (rw [← e1]; simp)
theorem ext_ext {A : ByteArray} {q z : Nat} (h : q ≤ A.size) : (A.extract q A.size).extract z (A.extract q A.size).size = A.extract (q + z) A.size := by
  rw [ByteArray.extract_extract, ByteArray.size_extract, Nat.min_self]
  congr 1
  omega
theorem run_slice_from {P : Program} {ty : TypeId} (ht : P.underlying ty = some (.slice (P.elem ty))) {size : Nat} (hsz : ∀ w, (sizeOf (P.elem ty)).run P w = .ok size w) {ad : Option Addr} {n c k : Nat} (hk : k ≤ n) {tv : Value} (hv : sliced ad k n c size = tv) (w : World) :
    (Instr.sliceAt ty (.slice ad n c) (some (.int .i64 (k : Int))) none none).run P w = .ok tv w := by
  have hr := run_slice_l (P := P) (w := w) ty ad n c ht .i64 (k : Int) (by omega) (by omega)
  rw [hsz, Result.andThen_ok, Int.toNat_natCast, hv] at hr
  rw [run_sliceAt_slice w ty _ _ _ _ ht, hr]
def feedmeas (Z : Nat) (bit used : Value) : Nat := 8 * Z - (8 * (intOf used).toNat + (intOf bit).toNat)
theorem feedmeas_own {w0 w : World} {ps : List Piece} {gr told Z : Nat} {A : ByteArray} {most e : Int} {st : Inf} (H : Own w0 w (StP gr A most told st e :: ps)) : feedmeas Z ((w.cell? ⟨gr, 1, none⟩).getD undef) ((w.cell? ⟨gr, 2, none⟩).getD undef) = 8 * Z - st.n := by
  obtain ⟨lit, dist, H⟩ := H.stp
  obtain ⟨sa, sc, h1, h2, HR⟩ := H.str
  rw [HR.cells, HR.cells]
  unfold feedmeas
  show 8 * Z - (8 * ((st.n / 8 : Nat) : Int).toNat + ((st.n % 8 : Nat) : Int).toNat) = _
  rw [Int.toNat_natCast, Int.toNat_natCast, Nat.div_add_mod]
/-- A step is said of what stands behind whole bytes. -/
theorem step_shift {A : ByteArray} {most : Int} {st : Inf} (h : st.n ≤ 8 * A.size) : stepG (textBits A) most st = shG (st.n / 8) (shI (st.n / 8)) (stepG (textBits (A.extract (st.n / 8) A.size)) most ⟨st.n % 8, st.out, st.tab, st.last⟩) := by
  rw [bits_from, ← sh_step (by rw [textBits_length]; omega)]
  congr 1
  unfold shI
  simp only
  rw [Nat.add_comm, Nat.div_add_mod]
theorem feed_bad {A : ByteArray} {most : Int} {st : Inf} {e : Int} (h : st.n ≤ 8 * A.size) (hd : st.done = false) (he : e ≠ 0) (hg : GotS (stepG (textBits (A.extract (st.n / 8) A.size)) most ⟨st.n % 8, st.out, st.tab, st.last⟩) Inf.init 0 e) :
    (e = -1 → FeedEnd (textBits A) most st 0) ∧ (e ≠ -1 → 0 < e ∧ FeedEnd (textBits A) most st e) := by
  have hs := step_shift (most := most) h
  unfold GotS at hg
  cases hG : stepG (textBits (A.extract (st.n / 8) A.size)) most ⟨st.n % 8, st.out, st.tab, st.last⟩ with
  | ok v n => rw [hG] at hg; exact absurd hg.2.2 he
  | ran =>
    rw [hG] at hg hs
    exact ⟨fun _ => .inr (.inl ⟨hd, rfl, hs⟩), fun h => absurd hg h⟩
  | bad e0 =>
    rw [hG] at hg hs
    have hg : e = e0 := hg
    subst hg
    have := step_npos _ hG
    exact ⟨fun h => by omega, fun _ => ⟨this, .inr (.inr ⟨hd, he, hs⟩)⟩⟩
theorem feed_good {A : ByteArray} {most : Int} {told m : Nat} {st0 st st' : Inf} (h : FeedSt (textBits A) A.size most told st0 st) (hd : st.done = false) (ho : (st'.out.length : Int) ≤ most) (hg : stepG (textBits (A.extract (st.n / 8) A.size)) most ⟨st.n % 8, st.out, st.tab, st.last⟩ = .ok st' m) :
    FeedSt (textBits A) A.size most told st0 (shI (st.n / 8) st') ∧ st.n < (shI (st.n / 8) st').n ∧ m = st'.n := by
  obtain ⟨h1, h2, h3, h4⟩ := h
  have hs := step_shift (most := most) h2
  rw [hg] at hs
  have hs : stepG (textBits A) most st = .ok (shI (st.n / 8) st') (m + 8 * (st.n / 8)) := hs
  have hgo := step_goes (by rw [textBits_length]; exact h2) hs
  rw [textBits_length] at hgo
  have hp := (step_pre hs).length_le
  exact ⟨⟨h1.trans (.step hd hs (.refl _)), hgo.2, ho, by omega⟩, hgo.1, (step_n hg).symm⟩

section
variable {P : Program} {ops : Array Oper} {S : Sig → World → Prop} {nw tw : List Nat} {R : Act → Prop} {a : Act} {o : Oper} {rest : List Oper} {i : Nat}
/-- A store in a region that draws its order, of which S is told. -/
theorem dcalm_store {ty : TypeId} (x y : Operand) (hi : i ∉ nw) (hit : i ∈ tw) (hw : Region.wanted o (yielded ops a.tmps) = true) (ho : o.op = .store ty x y) {g off : Nat} (hx : a.eval x = .pointer (some ⟨g, off, none⟩)) {u : Value} (hv : a.eval y = u) (hu : u.cells = #[u])
    (hinfo : (P.info? ty).map (·.size) = some 1) (h1 : u.oneCell' = true)
    (hS : ∀ σ w, S σ w → σ i = none → (∀ k ∈ tw, Trd.Deps o k → (σ k).isSome = true) → ∃ w0 cur e ps, Own w0 w (blk g (.cells cur e) :: ps) ∧ off < cur.size ∧ ∀ w', Own w0 w' (blk g (.cells (cur.setIfInBounds off u) e) :: ps) → S (σ.upd i undef) w')
    (h : Trd.calm P ops S nw tw R (i + 1) rest (a.put o.dst undef)) : Trd.calm P ops S nw tw R i (o :: rest) a :=
  Trd.calm_step undef hi hw (fun σ w hs hf hd K Q hK => by
    obtain ⟨w0, cur, e, ps, H, hfit, hfin⟩ := hS σ w hs (hf hit) hd
    have hr := run_storeAt_row (P := P) (ty := ty) (off := off) (a.eval y) H.block.1 (by rw [hv, hu]; simpa using hinfo) (by rw [hv, hu]; simp; omega) (by rw [hv, hu]; simpa using h1)
    rw [hv, hu] at hr
    have h3 := H.setRow (cur' := cur.setIfInBounds off u)
    have e3 : (cur.toList.take off ++ #[u].toList ++ cur.toList.drop (off + #[u].size)).toArray = cur.setIfInBounds off u := by
      rw [show cur.setIfInBounds off u = (cur.toList.set off u).toArray by apply Array.toList_inj.1; simp, List.set_eq_take_append_cons_drop, if_pos (by simpa using hfit)]
      simp
    rw [e3] at hr
    unfold Oper.wp execOp
    simp only [ho, hx, hv, Sem.run_bind, Sem.run_pure, Result.andThen_ok, hr]
    exact hK _ (by rw [Trd.trk, if_pos hit]; exact hfin _ h3)) h
/-- A call that S does not hear of. -/
theorem dcalm_call {v : Value} {f : FuncId} {args : Array Value} (hi : i ∉ nw) (hit : i ∉ tw) (hw : Region.wanted o (yielded ops a.tmps) = true) (hr : ∀ w, (execOp a.eval o).run P w = .ok (.enter f args) w)
    (hc : ∀ σ w, S σ w → Calls P f args w fun e w' => e = .returned v ∧ S σ w') (h : Trd.calm P ops S nw tw R (i + 1) rest (a.put o.dst v)) : Trd.calm P ops S nw tw R i (o :: rest) a :=
  Trd.calm_step v hi hw (fun σ w hS hf hd K Q hK => by
    unfold Oper.wp
    rw [hr w]
    refine (hc σ w hS).mono ?_
    rintro e w' ⟨rfl, hS'⟩
    exact hK w' (by rw [Trd.trk, if_neg hit]; exact hS')) h
end
end Go.Proofs.Ytljejkdkjnbmhaa
