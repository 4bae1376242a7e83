/-
  Texts of this claim, one behind the other: inflate, the document's; inflate, the document's; inflate, the document's; huff; huff; inflate, the document's; flate; inflate, the document's; flate; inflate, the document's.
-/
import Derived.Test.YtpbodonmiepilaaSb8
import Derived.Deep.LoopGhost
import Derived.WalkLawsBesides
import Derived.WalkSpells
import Derived.Deep.DeepCutAuto
import Derived.Deep.CutBlock
import Derived.Test.YtpbodonmiepilaaRows
set_option linter.unusedVariables false
/- inflate, the document's: the walks of take, table, sym. -/
namespace Go.Proofs.Ytpbodonmiepilaa
open Go.RowKit

theorem tkV_bd {s : ByteArray} {n k : Nat} (hk : k ≤ 16) : 0 ≤ tkV s n k ∧ tkV s n k < 65536 := by
  unfold tkV
  split
  · have h := valOf_bd (((textBits s).drop n).take (k : Int).toNat)
    refine ⟨h.1, Int.lt_of_lt_of_le h.2 ?_⟩
    have hl : (((textBits s).drop n).take (k : Int).toNat).length ≤ 16 := by simp; omega
    exact pow2_le hl
  · omega
set_option maxHeartbeats 800000 in
theorem rtk_any {w0 w : World} {ps : List Piece} {g rg n : Nat} {s : ByteArray} {out : List Int} {most e : Int} (k : Nat) (hk : k ≤ 16) (H : Own w0 w (Sta g rg s n out most e :: ps)) (hs : s.size ≤ 1000000) (hn : n ≤ 8 * s.size) :
    Calls Try.prog 40 #[.pointer (some ⟨g, 0, none⟩), .int .i64 k] w (Ret fun r w' => ∃ v n' e', r = .int .i64 v ∧ 0 ≤ v ∧ v < 65536 ∧ n' ≤ 8 * s.size ∧ (e ≠ 0 → e' = e ∧ v = 0) ∧ (e = 0 → GotR (takeG (textBits s) k n) v n' e') ∧ Own w0 w' (Sta g rg s n' out most e' :: ps)) := by
  by_cases he : e = 0
  · subst he
    obtain ⟨hg, hn', -⟩ := tk_got (s := s) (n := n) (k := k) (by omega) hn
    obtain ⟨hv0, hv1⟩ := tkV_bd (s := s) (n := n) hk
    replace hg : GotR (takeG (textBits s) k n) (tkV s n k) (tkN s n k) (tkE s n k 0) := by simpa [tkE] using hg
    refine (rtake_tk k hk H hs hn).mono ?_
    rintro e1 w1 ⟨_, rfl, rfl, H1⟩
    exact ⟨_, rfl, _, _, _, rfl, hv0, hv1, hn', fun h => absurd rfl h, fun _ => hg, H1⟩
  · obtain ⟨a, c, b, h1, h2, H⟩ := H.sta
    have c0 := H.cells
    have hb : (e == 0) = false := by simp [he]
    have hb2 : (e != 0) = true := by simp [he]
    go_enter Try.func40, Try.ntmps40
    go_wp2
    go_ret
    exact ⟨_, rfl, 0, n, e, rfl, by omega, by omega, hn, fun _ => ⟨rfl, rfl⟩, fun h => absurd h he, H.unsta rfl⟩
/-- What a symbol's taking yields. -/
def SymP (w0 : World) (ps : List Piece) (g rg : Nat) (s : ByteArray) (n : Nat) (l out : List Int) (most e : Int) (r : Value) (w' : World) : Prop :=
  ∃ x n' e', r = .int .i64 x ∧ 0 ≤ x ∧ x ≤ 1000000 ∧ n' ≤ 8 * s.size ∧ (e ≠ 0 → e' = e ∧ x = 0) ∧ (e = 0 → GotR (symG (textBits s) l n) x n' e') ∧ Own w0 w' (Sta g rg s n' out most e' :: ps)
/-- A code that is read: lengths, and codes. -/
def TabR (w0 : World) (ps : List Piece) (v u : Value) (m : Nat) (l : List Int) : Prop := ∀ w', Own w0 w' ps → Rd w' 1 v m (nums l) ∧ Rd w' 1 u m (nums (codesF l))
set_option maxRecDepth 100000 in
theorem rtable_any {w : World} {v : Value} {n : Nat} {L : List Int} (hr : Rd w 1 v n (nums L)) (hn : n ≤ 1000000) :
    Calls Try.prog 68 #[v] w (Ret fun r w' => ∃ u, r = .agg #[v, u] ∧ Own w w' [slc 3 1 u (cresF L).length (nums (cresF L))]) := by
  obtain ⟨a, c, rfl, hc1, hc2⟩ := hr.shape
  have H := (Own.start w).alloc (.cells #[.slice none 0 0, .slice none 0 0] 109)
  have HC := Lib.hid (rcodes_any (hr.old H) hn)
  clear hr
  go_enter Try.func68, Try.ntmps68
  go_wp2_with fail
  generalize w.alloc _ = w1 at *
  generalize w.heap.size = g at *
  refine HC.out.mono ?_
  rintro e w2 ⟨_, rfl, u, rfl, H2⟩
  have H := (H.join H2).swap
  obtain ⟨a2, c2, rfl, -⟩ := (H.front 1 rfl).rd.shape
  clear H2
  have H : Own w w2 (blk g (.cells #[.slice none 0 0, .slice none 0 0] 109) :: [slc 3 1 (.slice a2 (cresF L).length c2) (cresF L).length (nums (cresF L))]) := H
  go_wp2_with (refine wpList_store_agg (vs := [.slice a n c, .slice a2 (cresF L).length c2]) rfl _ _ rfl rfl H rfl (by kernel_rfl) (by simp) (by simp [Value.oneCell']) rfl ?_; clear H; intro w5 H)
  have c0 := H.cells
  have hld : (loadVar 109 ⟨g, 0, none⟩).run Try.prog w5 = .ok (.agg #[.slice a n c, .slice a2 (cresF L).length c2]) w5 := by
    clear HC
    go_simp
  refine bodyPost_ret (results_cell1 rfl _ _ g _ rfl hld) rfl ?_
  exact ⟨_, rfl, _, rfl, H.drop⟩
theorem dec_e (l : List Int) : ∀ f m c b, (decN l f m c b).2.1 = 0 ∨ (decN l f m c b).2.1 = 2 := by
  intro f
  induction f with
  | zero => intro m c b; right; rfl
  | succ f ih =>
    intro m c b
    cases b with
    | nil => right; rfl
    | cons x t =>
      rw [decN]
      split
      · left; rfl
      · exact ih _ _ _
set_option maxRecDepth 100000 in
set_option maxHeartbeats 1600000 in
theorem rsym_any {w0 w : World} {ps : List Piece} {g rg n m : Nat} {v u : Value} {l : List Int} {s : ByteArray} {out : List Int} {most e : Int} (hT : e = 0 → TabR w0 ps v u m l ∧ (∀ x ∈ l, 0 ≤ x ∧ x ≤ 15) ∧ l.length = m ∧ m ≤ 1000000) (hs : s.size ≤ 1000000) (hn : n ≤ 8 * s.size) (H : Own w0 w (Sta g rg s n out most e :: ps)) :
    Calls Try.prog 69 #[.pointer (some ⟨g, 0, none⟩), .agg #[v, u]] w (Ret fun r w' => SymP w0 ps g rg s n l out most e r w') := by
  obtain ⟨a, c, b, h1, h2, H⟩ := H.sta
  have H := H.alloc (.cells #[v, u] 109)
  go_enter Try.func69, Try.ntmps69
  go_upto_region 1 with (fail)
  generalize w.alloc _ = w1 at *
  generalize w.heap.size = g2 at *
  replace H : Own w0 w1 (RRdr rg s n :: blk g (.cells #[.pointer (some ⟨rg, 0, none⟩), .slice a out.length c, .int .i64 most, .int .i64 e, .bool b] 67) :: slc 5 1 (.slice a out.length c) out.length (bcells out) :: blk g2 (.cells #[v, u] 109) :: ps) := ((H.front 2 rfl).front 2 rfl).front 3 rfl
  have c0 := (H.front 1 rfl).cells
  by_cases he : e = 0
  case neg =>
    have hb : (e == 0) = false := by simp [he]
    have hb2 : (e != 0) = true := by simp [he]
    go_wp2
    go_ret
    exact ⟨_, rfl, show SymP _ _ _ _ _ _ _ _ _ _ _ _ from ⟨0, n, e, rfl, by omega, by omega, hn, fun _ => ⟨rfl, rfl⟩, fun h => absurd h he, ((((H.front 3 rfl).drop).front 2 rfl).front 2 rfl).unsta rfl⟩⟩
  subst he
  obtain ⟨hT1, hT2, hT3, hT4⟩ := hT rfl
  clear hT
  have hg := Lib.hid (sym_got (l := l) (bs := textBits s) (n := n))
  have hu := decN_used (l := l) 15 0 0 ((textBits s).drop n)
  have hxb : 0 ≤ (decF l ((textBits s).drop n)).1 ∧ (decF l ((textBits s).drop n)).1 ≤ 1000000 := by
    have h1 := dec_bd l 15 0 0 ((textBits s).drop n)
    unfold decF
    omega
  have hN : n + (decF l ((textBits s).drop n)).2.2 ≤ 8 * s.size := by
    rw [List.length_drop, textBits_length] at hu
    unfold decF
    omega
  have hx2 : (decF l ((textBits s).drop n)).2.1 = 0 ∨ (decF l ((textBits s).drop n)).2.1 = 2 := dec_e l 15 0 0 _
  have hfd := fun w1 (h : Own w0 w1 (RRdr rg s n :: blk g (.cells #[.pointer (some ⟨rg, 0, none⟩), .slice a out.length c, .int .i64 most, .int .i64 0, .bool b] 67) :: slc 5 1 (.slice a out.length c) out.length (bcells out) :: blk g2 (.cells #[v, u] 109) :: ps)) => find_any hT2 hT3 hT4 (by omega) hn (fun k wz hz => hT1 wz hz.drop.drop.drop.drop) h
  clear hu hT2
  obtain ⟨va, vc, rfl, -⟩ := ((hT1 _ H.drop.drop.drop.drop).1).shape
  obtain ⟨ua, uc, rfl, -⟩ := ((hT1 _ H.drop.drop.drop.drop).2).shape
  obtain ⟨x1, x2, x3, hD⟩ : ∃ x1 x2 x3, Hid (decF l ((textBits s).drop n) = (x1, x2, x3)) := ⟨_, _, _, rfl⟩
  rw [hD.out] at hfd hg hN hxb hx2
  simp only at hN hxb hx2
  have HF := Lib.hid hfd
  replace hx2 := Lib.hid hx2
  clear hfd hT1
  have cR := H.cells
  obtain ⟨M, hM⟩ : ∃ M, Hid (n + x3 = M) := ⟨_, rfl⟩
  rw [hM.out] at HF hg hN
  have hM3 : Hid (IntKind.i64.wrap ((M : Int) - (n : Int)) = (x3 : Int)) := Lib.hid (by have := hM.out; rw [show (M : Int) - (n : Int) = x3 by omega]; exact IntWalk.i64_in _ ⟨by omega, by omega⟩)
  clear hM
  go_upto_region 4 with (fail)
  refine Trk.wp_region_new (fun σ w1 => Own w0 w1 ((if (σ 8).isSome then RRdr rg s M else RRdr rg s n) :: blk g (.cells #[.pointer (some ⟨rg, 0, none⟩), .slice a out.length c, .int .i64 most, .int .i64 0, .bool b] 67) :: slc 5 1 (.slice a out.length c) out.length (bcells out) :: blk g2 (.cells #[.slice va m vc, .slice ua m uc] 109) :: ps)) 13 [] [8] (by intro k hk; simp at hk; subst hk; exact ⟨by omega, by simp, fun o ho => by simp at ho; subst ho; rfl⟩) (by kernel_rfl) (by kernel_rfl) H.drew ?_
  simp only [List.take_succ_cons, List.take_zero, List.drop_succ_cons, List.drop_zero]
  repeat
    first
    | (refine Trk.calm_value (v := ?_) (by decide) (by decide) rfl (fun σ w1 hS => ?_) ?_
       rotate_left
       · have c0 := (hS.front 1 rfl).cells; have c1 := (hS.front 3 rfl).cells
         first | (go_simp; rfl) | rfl
       simp only [Act.put, List.setIfInBounds_toArray, List.set_cons_zero, List.set_cons_succ])
    | (refine Trk.calm_skip (by decide) rfl ?_
       simp only [Act.put, List.setIfInBounds_toArray, List.set_cons_zero, List.set_cons_succ])
  refine kcalm_call (v := .tuple #[.int .i64 x1, .int .i64 x2]) (by decide) (by decide) rfl (fun w1 => (by go_simp; first | exact ⟨rfl, rfl⟩ | rfl)) (fun σ w1 hS hn => ?_) ?_
  · rw [hn] at hS
    refine (HF.out _ hS).mono ?_
    rintro e w2 ⟨_, rfl, rfl, h2⟩
    refine ⟨rfl, ?_⟩
    simpa [Sig.upd] using h2
  simp only [Act.put, List.setIfInBounds_toArray, List.set_cons_zero, List.set_cons_succ]
  repeat
    first
    | (refine Trk.calm_value (v := ?_) (by decide) (by decide) rfl (fun σ w1 hS => ?_) ?_
       rotate_left
       · skip
         first | (go_simp; rfl) | rfl
       simp only [Act.put, List.setIfInBounds_toArray, List.set_cons_zero, List.set_cons_succ])
    | (refine Trk.calm_skip (by decide) rfl ?_
       simp only [Act.put, List.setIfInBounds_toArray, List.set_cons_zero, List.set_cons_succ])
  refine Trk.calm_nil ?_
  intro σ wd _ hσ HD
  have h8 := hσ 8 (by decide)
  rw [if_pos h8] at HD
  clear H hσ h8 c0 cR HF hD
  simp only [putNew, List.foldl_nil]
  have c0 := (HD.front 1 rfl).cells
  have cR := HD.cells
  have H : Own w0 wd (blk g (.cells #[.pointer (some ⟨rg, 0, none⟩), .slice a out.length c, .int .i64 most, .int .i64 0, .bool b] 67) :: slc 5 1 (.slice a out.length c) out.length (bcells out) :: RRdr rg s M :: ps) := (((HD.front 3 rfl).drop).front 2 rfl).front 2 rfl
  rcases hx2.out with h | h
  · have hx2b : (x2 != 0) = false := by simp [h]
    have hx2c : (x2 == 0) = true := by simp [h]
    have hx2d : Hid (fltF false x2 (fltF false 2 0) = x2) := Lib.hid (by rw [flt_no, flt_no, h])
    clear hx2 h
    have K1 := Lib.hid (rran_any (g := g) (rg := rg) false (H.unsta rfl))
    go_wp2_with fail
    refine K1.out.mono ?_
    rintro e w2 ⟨_, rfl, H2⟩
    have K2 := Lib.hid (rfault_any (g := g) (rg := rg) false x2 H2)
    go_wp2_with fail
    refine K2.out.mono ?_
    rintro e w3 ⟨_, rfl, H3⟩
    rw [hx2d.out] at H3
    go_wp2
    go_ret
    exact ⟨_, rfl, show SymP _ _ _ _ _ _ _ _ _ _ _ _ from ⟨x1, M, x2, rfl, hxb.1, hxb.2, hN, fun h => absurd rfl h, fun _ => hg.out, H3⟩⟩
  · have hx2b : (x2 != 0) = true := by simp [h]
    have hx2c : (x2 == 0) = false := by simp [h]
    have hM4 := hM3.out
    by_cases h15 : (x3 : Int) < 15
    · have hx2d : Hid (fltF true x2 (fltF true 2 0) = x2) := Lib.hid (by rw [flt_yes, flt_ne (by decide), h])
      clear hx2 h
      have K1 := Lib.hid (rran_any (g := g) (rg := rg) true (H.unsta rfl))
      go_wp2_with fail
      refine K1.out.mono ?_
      rintro e w2 ⟨_, rfl, H2⟩
      have K2 := Lib.hid (rfault_any (g := g) (rg := rg) true x2 H2)
      go_wp2_with fail
      refine K2.out.mono ?_
      rintro e w3 ⟨_, rfl, H3⟩
      rw [hx2d.out] at H3
      go_wp2
      go_ret
      exact ⟨_, rfl, show SymP _ _ _ _ _ _ _ _ _ _ _ _ from ⟨x1, M, x2, rfl, hxb.1, hxb.2, hN, fun h => absurd rfl h, fun _ => hg.out, H3⟩⟩
    · have hx2d : Hid (fltF true x2 (fltF false 2 0) = x2) := Lib.hid (by rw [flt_no, flt_yes])
      clear hx2 h
      have K1 := Lib.hid (rran_any (g := g) (rg := rg) false (H.unsta rfl))
      go_wp2_with fail
      refine K1.out.mono ?_
      rintro e w2 ⟨_, rfl, H2⟩
      have K2 := Lib.hid (rfault_any (g := g) (rg := rg) true x2 H2)
      go_wp2_with fail
      refine K2.out.mono ?_
      rintro e w3 ⟨_, rfl, H3⟩
      rw [hx2d.out] at H3
      go_wp2
      go_ret
      exact ⟨_, rfl, show SymP _ _ _ _ _ _ _ _ _ _ _ _ from ⟨x1, M, x2, rfl, hxb.1, hxb.2, hN, fun h => absurd rfl h, fun _ => hg.out, H3⟩⟩
end Go.Proofs.Ytpbodonmiepilaa
/- inflate, the document's: the walk of stored. -/
namespace Go.Proofs.Ytpbodonmiepilaa
open Go.RowKit

/-- What a block of bytes yields. -/
def StoP (w0 : World) (ps : List Piece) (g rg : Nat) (s : ByteArray) (G : Got (List Int)) (most : Int) (w' : World) : Prop :=
  ∃ out' n' e', n' ≤ 8 * s.size ∧ (out'.length : Int) ≤ most ∧ GotR G out' n' e' ∧ Own w0 w' (Sta g rg s n' out' most e' :: ps)
set_option maxRecDepth 100000 in
set_option maxHeartbeats 1600000 in
theorem rstored_any {w0 w : World} {ps : List Piece} {g rg n : Nat} {s : ByteArray} {out : List Int} {most : Int} (hm : 0 ≤ most ∧ most ≤ 1000000) (ho : (out.length : Int) ≤ most) (hs : s.size ≤ 1000000) (hn : n ≤ 8 * s.size) (H : Own w0 w (Sta g rg s n out most 0 :: ps)) :
    Calls Try.prog 42 #[.pointer (some ⟨g, 0, none⟩)] w (Ret fun _ w' => StoP w0 ps g rg s (storedG (textBits s) most out n) most w') := by
  obtain ⟨a, c, b, h1, h2, H⟩ := H.sta
  have c0 := H.cells
  obtain ⟨q, hq⟩ : ∃ q, Hid (nbytes n = q) := ⟨_, rfl⟩
  have hqs : 8 * q ≤ 8 * s.size := by have := hq.out; unfold nbytes at this; omega
  obtain ⟨G, hG⟩ : ∃ G, Hid (storedG (textBits s) most out n = G) := ⟨_, rfl⟩
  rw [hG.out]
  have hG2 : Hid (G = (takeG (textBits s) 16 (8 * q)).bind fun a n1 => (takeG (textBits s) 16 n1).bind fun b n2 =>
    if a + b = 65535 then
      (if n2 + 8 * a.toNat ≤ (textBits s).length then (if most - out.length < a then .bad 12 else .ok (out ++ bytesAt (textBits s) n2 a.toNat) (n2 + 8 * a.toNat)) else .ran)
    else .bad 2) := Lib.hid (by rw [← hG.out]; unfold storedG; rw [hq.out])
  have HA := Lib.hid (rralign_any H.rot3' (by omega))
  rw [hq.out] at HA
  obtain ⟨B, hB⟩ : ∃ B, Hid (textBits s = B) := ⟨_, rfl⟩
  have hBl : Hid (B.length = 8 * s.size) := Lib.hid (by rw [← hB.out, textBits_length])
  go_enter Try.func42, Try.ntmps42
  go_wp2_with fail
  refine HA.out.mono ?_
  rintro e w1 ⟨_, rfl, H1⟩
  clear HA H c0
  have H := H1.rot3.unsta rfl
  clear H1
  have HT := Lib.hid (rtk_any 16 (by omega) H hs hqs)
  go_wp2_with fail
  refine HT.out.mono ?_
  rintro e w2 ⟨_, rfl, v1, n1, e1, rfl, hv1, hv1', hn1, hd1, hg1, H1⟩
  clear hd1
  replace hg1 := Lib.hid (take_got (hg1 trivial))
  clear HT H
  have HT := Lib.hid (rtk_any 16 (by omega) H1 hs hn1)
  go_wp2_with fail
  refine HT.out.mono ?_
  rintro e w3 ⟨_, rfl, v2, n2, e2, rfl, hv2, hv2', hn2, he2, hg2, H2⟩
  replace hg2 := Lib.hid (fun h => take_got (hg2 h))
  replace he2 := Lib.hid he2
  clear HT H1
  have hcase : Hid (e2 = 2 ∧ G = .ran ∨ e2 = 0 ∧ n2 = 8 * (q + 4) ∧ (G = if v1 + v2 = 65535 then
      (if n2 + 8 * v1.toNat ≤ 8 * s.size then (if most - out.length < v1 then .bad 12 else .ok (out ++ bytesAt (textBits s) n2 v1.toNat) (n2 + 8 * v1.toNat)) else .ran)
    else .bad 2)) := Lib.hid (by
      rcases hg1.out with ⟨rfl, e, e', _⟩ | ⟨rfl, e⟩
      · rcases hg2.out rfl with ⟨rfl, f, f', _⟩ | ⟨rfl, f⟩
        · right
          refine ⟨rfl, by omega, ?_⟩
          rw [hG2.out, e, Got.bind_ok, f, Got.bind_ok, textBits_length]
        · left
          refine ⟨rfl, ?_⟩
          rw [hG2.out, e, Got.bind_ok, f]; rfl
      · left
        refine ⟨(he2.out (by decide)).1, ?_⟩
        rw [hG2.out, e]; rfl)
  clear hg1 hg2 he2 hG2
  rcases hcase.out with ⟨rfl, hGr⟩ | ⟨rfl, rfl, hGr⟩
  · replace hGr := Lib.hid hGr
    clear hcase
    obtain ⟨bad, hbad⟩ : ∃ bad, Hid ((v1 + v2 != 65535) = bad) := ⟨_, rfl⟩
    have HH := Lib.hid (rfault_any (g := g) (rg := rg) bad 2 H2)
    rw [flt_ne (by decide)] at HH
    have hbad1 := hbad.out
    go_wp2_with fail
    refine HH.out.mono ?_
    rintro e w4 ⟨_, rfl, H3⟩
    obtain ⟨a, c, b, h1, h2, H4⟩ := H3.sta
    have c0 := H4.cells
    go_wp2
    go_end0
    exact ⟨_, rfl, show StoP _ _ _ _ _ _ _ _ from ⟨out, n2, 2, hn2, ho, by rw [hGr.out]; rfl, H3⟩⟩
  · clear hcase
    by_cases hx3 : v1 + v2 = 65535
    case neg =>
      have hxb : (v1 + v2 != 65535) = true := by simpa using hx3
      have HH := Lib.hid (rfault_any (g := g) (rg := rg) true 2 H2)
      rw [flt_yes] at HH
      rw [if_neg hx3] at hGr
      replace hGr := Lib.hid hGr
      go_wp2_with fail
      refine HH.out.mono ?_
      rintro e w4 ⟨_, rfl, H3⟩
      obtain ⟨a, c, b, h1, h2, H4⟩ := H3.sta
      have c0 := H4.cells
      go_wp2
      go_end0
      exact ⟨_, rfl, show StoP _ _ _ _ _ _ _ _ from ⟨out, _, 2, hn2, ho, by rw [hGr.out]; rfl, H3⟩⟩
    have hxb : (v1 + v2 != 65535) = false := by simpa using hx3
    rw [if_pos hx3] at hGr
    replace hGr := Lib.hid hGr
    clear hx3
    have HH := Lib.hid (rfault_any (g := g) (rg := rg) false 2 H2)
    rw [flt_no] at HH
    go_wp2_with fail
    refine HH.out.mono ?_
    rintro e w4 ⟨_, rfl, H3⟩
    clear H2 HH
    obtain ⟨a, c, b, h1, h2, H⟩ := H3.sta
    have c0 := H.cells
    have HX := Lib.hid (rrtext_any v1 ⟨by omega, by omega⟩ H.rot3' hs hn2)
    go_wp2_with fail
    refine HX.out.mono ?_
    rintro e w5 ⟨_, rfl, rfl, H4⟩
    clear HX H c0 H3
    have H := H4.rot3.unsta rfl
    clear H4
    by_cases ht : txOk s (8 * (q + 4)) v1
    case neg =>
      have ht2 := ht
      unfold txOk at ht2
      rw [nbytes_8] at ht2
      have hGr2 : Hid (G = .ran) := Lib.hid (by rw [hGr.out, if_neg (by omega)])
      rw [decide_eq_false ht]
      simp only [txN, if_neg ht] at H
      have HH := Lib.hid (rran_any (g := g) (rg := rg) true H)
      rw [flt_yes] at HH
      clear hGr ht ht2
      go_wp2_with fail
      refine HH.out.mono ?_
      rintro e w6 ⟨_, rfl, H3⟩
      obtain ⟨a, c, b, h1, h2, H⟩ := H3.sta
      obtain ⟨N, hN⟩ : ∃ N, Hid (out.length = N) := ⟨_, rfl⟩
      rw [hN.out] at H h1 ho
      have hw : IntKind.i64.wrap (most - (N : Int)) = most - N := IntWalk.i64_in _ ⟨by omega, by omega⟩
      obtain ⟨lt, hlt⟩ : ∃ lt, Hid (decide (most - (N : Int) < v1) = lt) := ⟨_, rfl⟩
      go_upto_region 7 with (fail)
      refine wp_region_calm (fun w1 => Own w0 w1 (blk g (.cells #[.pointer (some ⟨rg, 0, none⟩), .slice a N c, .int .i64 most, .int .i64 2, .bool b] 67) :: slc 5 1 (.slice a N c) N (bcells out) :: RRdr rg s (8 * (q + 4)) :: ps)) 13 (by kernel_rfl) (by kernel_rfl) H.drew ?_
      simp only [List.take_succ_cons, List.take_zero, List.drop_succ_cons, List.drop_zero]
      repeat
        first
        | (refine calm_value (v := ?_) (by decide) rfl (fun σ w1 hS => ?_) ?_
           rotate_left
           · have c0 := hS.cells
             first | (go_simp; rfl) | rfl
           simp only [Act.put, List.setIfInBounds_toArray, List.set_cons_zero, List.set_cons_succ])
        | (refine calm_skip (by decide) rfl ?_
           simp only [Act.put, List.setIfInBounds_toArray, List.set_cons_zero, List.set_cons_succ])
      refine calm_nil ?_
      intro wd HD
      rw [hlt.out]
      clear H H3
      have HQ := Lib.hid (rfault_any (g := g) (rg := rg) lt 12 (HD.unsta hN.out.symm))
      rw [flt_ne (by decide)] at HQ
      go_wp2_with fail
      refine HQ.out.mono ?_
      rintro e w7 ⟨_, rfl, H3⟩
      obtain ⟨a, c, b, h1, h2, H4⟩ := H3.sta
      have c0 := H4.cells
      go_wp2
      go_end0
      exact ⟨_, rfl, show StoP _ _ _ _ _ _ _ _ from ⟨out, _, 2, hn2, by rw [hN.out]; exact ho, by rw [hGr2.out]; rfl, H3⟩⟩
    have ht2 := ht
    unfold txOk at ht2
    rw [nbytes_8] at ht2
    obtain ⟨k, rfl⟩ : ∃ k : Nat, v1 = k := ⟨v1.toNat, by omega⟩
    rw [decide_eq_true ht]
    simp only [txN, txV, if_pos ht, nbytes_8, Int.toNat_natCast] at H ⊢
    have hGr2 : Hid (G = if most - out.length < (k : Int) then .bad 12 else .ok (out ++ byteNums (s.extract (q + 4) (q + 4 + k))) (8 * (q + 4 + k))) := Lib.hid (by
      rw [hGr.out, if_pos (by omega)]
      simp only [Int.toNat_natCast]
      rw [bytesAt_text (by omega), show 8 * (q + 4) + 8 * k = 8 * (q + 4 + k) by omega])
    have hts : Hid ((s.extract (q + 4) (q + 4 + k)).size = k) := Lib.hid (by rw [ByteArray.size_extract]; omega)
    obtain ⟨t, htt⟩ : ∃ t, Hid (s.extract (q + 4) (q + 4 + k) = t) := ⟨_, rfl⟩
    rw [htt.out] at hts hGr2
    rw [htt.out]
    have hn3 : 8 * (q + 4 + k) ≤ 8 * s.size := by omega
    have HH := Lib.hid (rran_any (g := g) (rg := rg) false H)
    rw [flt_no] at HH
    clear hGr ht ht2 H
    go_wp2_with fail
    refine HH.out.mono ?_
    rintro e w6 ⟨_, rfl, H3⟩
    clear HH
    obtain ⟨a, c, b, h1, h2, H⟩ := H3.sta
    obtain ⟨N, hN⟩ : ∃ N, Hid (out.length = N) := ⟨_, rfl⟩
    rw [hN.out] at H h1 ho
    have hw : IntKind.i64.wrap (most - (N : Int)) = most - N := IntWalk.i64_in _ ⟨by omega, by omega⟩
    obtain ⟨lt, hlt⟩ : ∃ lt, Hid (decide (most - (N : Int) < (k : Int)) = lt) := ⟨_, rfl⟩
    go_upto_region 7 with (fail)
    refine wp_region_calm (fun w1 => Own w0 w1 (blk g (.cells #[.pointer (some ⟨rg, 0, none⟩), .slice a N c, .int .i64 most, .int .i64 0, .bool b] 67) :: slc 5 1 (.slice a N c) N (bcells out) :: RRdr rg s (8 * (q + 4 + k)) :: ps)) 13 (by kernel_rfl) (by kernel_rfl) H.drew ?_
    simp only [List.take_succ_cons, List.take_zero, List.drop_succ_cons, List.drop_zero]
    repeat
      first
      | (refine calm_value (v := ?_) (by decide) rfl (fun σ w1 hS => ?_) ?_
         rotate_left
         · have c0 := hS.cells
           first | (go_simp; rfl) | rfl
         simp only [Act.put, List.setIfInBounds_toArray, List.set_cons_zero, List.set_cons_succ])
      | (refine calm_skip (by decide) rfl ?_
         simp only [Act.put, List.setIfInBounds_toArray, List.set_cons_zero, List.set_cons_succ])
    refine calm_nil ?_
    intro wd HD
    rw [hlt.out]
    clear H H3
    have HQ := Lib.hid (rfault_any (g := g) (rg := rg) lt 12 (HD.unsta hN.out.symm))
    rw [hN.out] at hGr2
    go_wp2_with fail
    refine HQ.out.mono ?_
    rintro e w7 ⟨_, rfl, H3⟩
    clear HD HQ
    cases lt with
    | true =>
      rw [flt_yes] at H3
      obtain ⟨a, c, b, h1, h2, H4⟩ := H3.sta
      have c0 := H4.cells
      have hGr3 := hGr2.out
      rw [if_pos (of_decide_eq_true hlt.out)] at hGr3
      replace hGr3 := Lib.hid hGr3
      clear hlt hGr2
      go_wp2
      go_end0
      exact ⟨_, rfl, show StoP _ _ _ _ _ _ _ _ from ⟨out, _, 12, by omega, by rw [hN.out]; exact ho, by rw [hGr3.out]; rfl, H3⟩⟩
    | false =>
      rw [flt_no] at H3
      have hlt2 := of_decide_eq_false hlt.out
      have hGr3 := hGr2.out
      rw [if_neg hlt2] at hGr3
      replace hGr3 := Lib.hid hGr3
      clear hGr2 hlt
      obtain ⟨a, c, b, h1, h2, H⟩ := H3.sta
      rw [hN.out] at H h1
      have c0 := H.cells
      have hsz : N + t.size ≤ 140737488355328 := by have := hts.out; omega
      clear H3
      go_wp2_with (first
        | (at_builtin; refine wpList_append_str rfl _ _ rfl Try.underlying54 Try.underlying9 u8Info rfl rfl H.swap rfl hsz ?_; clear H c0; intro v' w' H; replace H := H.swap; obtain ⟨a', c', rfl, h1', h2'⟩ := (H.front 1 rfl).rd.shape)
        | (refine wpList_store_slice rfl _ _ rfl rfl H rfl (by kernel_rfl) (by simp) ?_; clear H; intro w2 H))
      go_end0
      have hlen : (out ++ byteNums t).length = N + t.size := by rw [List.length_append, hN.out, byteNums_length]
      refine ⟨_, rfl, show StoP _ _ _ _ _ _ _ _ from ⟨out ++ byteNums t, 8 * (q + 4 + k), 0, hn3, by rw [hlen, hts.out]; omega, by rw [hGr3.out]; exact ⟨rfl, rfl, rfl⟩, ?_⟩⟩
      have hbc : bcells (out ++ byteNums t) = bcells out ++ byteCells t := by rw [byteCells_nums]; simp [bcells, u8s]
      rw [← hbc] at H
      exact H.unsta hlen.symm
end Go.Proofs.Ytpbodonmiepilaa
/- inflate, the document's: the walk of lengths. -/
namespace Go.Proofs.Ytpbodonmiepilaa
open Go.RowKit

theorem Own.sta_e {w0 w : World} {ps : List Piece} {g rg n : Nat} {s : ByteArray} {out : List Int} {most e : Int} (H : Own w0 w (Sta g rg s n out most e :: ps)) : w.cell? ⟨g, 3, none⟩ = some (.int .i64 e) := by
  obtain ⟨a, c, b, _, _, H⟩ := H.sta
  rw [H.cells]; rfl
theorem lmeas_sta {w0 w : World} {ps : List Piece} {N g rg n : Nat} {s : ByteArray} {l : List Int} {out : List Int} {most e : Int} {a : Option Addr} {c : Nat} (H : Own w0 w (Sta g rg s n out most e :: ps)) : lmeas N (.slice a l.length c) ((w.cell? ⟨g, 3, none⟩).getD undef) = if e = 0 then N + 1 - l.length else 0 := by
  unfold lmeas
  rw [H.sta_e]
  rfl
theorem lst_any {bs : List Bool} {G : Got (List Int)} {T l l' : List Int} {N n n' : Nat} {e : Int} (h : LSt bs G T N l n e) (he : e ≠ 0) : LSt bs G T N l' n' e := ⟨fun h0 => absurd h0 he, h.2⟩
theorem agE_flt {N k : Nat} {l : List Int} {e : Int} : agE N l k e = fltF (decide ((N : Int) - l.length < k)) 2 e := by
  unfold agE fltF
  by_cases h : N < l.length + k
  · rw [if_pos h, decide_eq_true (by omega)]
    simp
  · rw [if_neg h, decide_eq_false (by omega)]
    simp
theorem terr_cerr {l : List Int} (h : terrF l = 0) : cerrF l = 0 := by
  have h3 := (table_ok h).2.2
  unfold cerrF
  unfold terrF at h
  by_cases hm : mayF l = true
  · rw [if_pos hm, if_pos h3]
  · rw [if_neg hm] at h; cases h
theorem lst_lit {bs : List Bool} {G : Got (List Int)} {T l : List Int} {N n1 : Nat} {c e1 : Int} {X Y Z W : Prop} (h : (e1 ≠ 0 → LSt bs G T N l n1 e1) ∧ (e1 = 0 → (c < 16 → LSt bs G T N (l ++ [c]) n1 0) ∧ X ∧ Y ∧ Z ∧ W)) (hc : c < 16) : LSt bs G T N (l ++ [c]) n1 e1 := by
  by_cases he : e1 = 0
  · subst he; exact (h.2 rfl).1 hc
  · exact lst_any (h.1 he) he
theorem agE_ne {N k : Nat} {l : List Int} {e : Int} (h : e ≠ 0) : agE N l k e = e := by rw [agE_flt, flt_ne h]
theorem lst_more {bs : List Bool} {G : Got (List Int)} {T l : List Int} {N n1 n3 j b : Nat} {V x e E : Int}
    (h1 : e = 0 → G = (takeG bs j n1).bind fun v n2 => if N < l.length + (b + v.toNat) then .bad 2 else lengthsG bs T N (l ++ List.replicate (b + v.toNat) x) n2)
    (h2 : e ≠ 0 → ∀ v m, GotR G v m e) (hg : e = 0 → GotR (takeG bs j n1) V n3 E) (hk : e ≠ 0 → E = e) : LSt bs G T N (agL N l (b + V.toNat) x) n3 (agE N l (b + V.toNat) E) := by
  by_cases he : e = 0
  · have hG := h1 he
    rcases take_got (hg he) with ⟨rfl, h3, -, -⟩ | ⟨rfl, h3⟩
    · rw [h3, Got.bind_ok] at hG
      unfold agE agL
      by_cases hx : N < l.length + (b + V.toNat)
      · rw [if_pos hx, if_pos hx, if_pos rfl]
        rw [if_pos hx] at hG
        exact ⟨fun h => absurd h (by decide), fun _ v m => by rw [hG]; rfl⟩
      · rw [if_neg hx, if_neg hx]
        rw [if_neg hx] at hG
        exact ⟨fun _ => hG.symm, fun h => absurd rfl h⟩
    · rw [h3, Got.bind_ran] at hG
      rw [agE_ne (by decide)]
      exact ⟨fun h => absurd h (by decide), fun _ v m => by rw [hG]; rfl⟩
  · rw [hk he, agE_ne he]
    exact ⟨fun h => absurd h he, fun _ => h2 he⟩
/-- What a symbol leads to. -/
def LNext (bs : List Bool) (G : Got (List Int)) (T : List Int) (N : Nat) (l : List Int) (n1 : Nat) (c e1 : Int) : Prop :=
    (e1 ≠ 0 → LSt bs G T N l n1 e1) ∧ (e1 = 0 → (c < 16 → LSt bs G T N (l ++ [c]) n1 0) ∧ (c = 16 → l.length = 0 → ∀ v m, GotR G v m 2) ∧
      (c = 16 → l.length ≠ 0 → G = (takeG bs 2 n1).bind fun v n2 => if N < l.length + (3 + v.toNat) then .bad 2 else lengthsG bs T N (l ++ List.replicate (3 + v.toNat) (l.getD (l.length - 1) 0)) n2) ∧
      (c = 17 → G = (takeG bs 3 n1).bind fun v n2 => if N < l.length + (3 + v.toNat) then .bad 2 else lengthsG bs T N (l ++ List.replicate (3 + v.toNat) 0) n2) ∧
      (17 < c → G = (takeG bs 7 n1).bind fun v n2 => if N < l.length + (11 + v.toNat) then .bad 2 else lengthsG bs T N (l ++ List.replicate (11 + v.toNat) 0) n2))
theorem LNext.get {bs : List Bool} {G : Got (List Int)} {T : List Int} {N : Nat} {l : List Int} {n1 : Nat} {c e1 : Int} (h : LNext bs G T N l n1 c e1) :
    (e1 ≠ 0 → LSt bs G T N l n1 e1) ∧ (e1 = 0 → (c < 16 → LSt bs G T N (l ++ [c]) n1 0) ∧ (c = 16 → l.length = 0 → ∀ v m, GotR G v m 2) ∧
      (c = 16 → l.length ≠ 0 → G = (takeG bs 2 n1).bind fun v n2 => if N < l.length + (3 + v.toNat) then .bad 2 else lengthsG bs T N (l ++ List.replicate (3 + v.toNat) (l.getD (l.length - 1) 0)) n2) ∧
      (c = 17 → G = (takeG bs 3 n1).bind fun v n2 => if N < l.length + (3 + v.toNat) then .bad 2 else lengthsG bs T N (l ++ List.replicate (3 + v.toNat) 0) n2) ∧
      (17 < c → G = (takeG bs 7 n1).bind fun v n2 => if N < l.length + (11 + v.toNat) then .bad 2 else lengthsG bs T N (l ++ List.replicate (11 + v.toNat) 0) n2)) := h
/-- Where lengths stand, if there was no fault ahead. -/
def LInv (bs : List Bool) (G : Got (List Int)) (T : List Int) (N : Nat) (e : Int) (l : List Int) (n1 : Nat) (e1 : Int) : Prop := (e ≠ 0 → e1 = e) ∧ (e = 0 → LSt bs G T N l n1 e1)
/-- What lengths leaves. -/
def RLenP (w0 : World) (ps : List Piece) (g rg : Nat) (s : ByteArray) (n : Nat) (T out : List Int) (most e : Int) (N : Nat) (r : Value) (w' : World) : Prop :=
  ∃ l n' e', n' ≤ 8 * s.size ∧ l.length ≤ N ∧ (e' = 0 → l.length = N) ∧ (e ≠ 0 → e' = e) ∧ (e = 0 → GotR (lengthsG (textBits s) T N [] n) l n' e') ∧ Own w0 w' (slc 3 1 r l.length (nums l) :: Sta g rg s n' out most e' :: ps)

set_option maxRecDepth 100000 in
set_option maxHeartbeats 3200000 in
theorem rlengths_any {w0 w : World} {ps : List Piece} {g rg n m : Nat} {lv : Value} {s : ByteArray} {T out : List Int} {most e : Int} (N : Nat) (hlv : Reads w0 ps 1 lv m (nums T)) (hTm : T.length = m) (hm : m ≤ 1000) (hT : e = 0 → terrF T = 0) (hN : N ≤ 200000) (hs : s.size ≤ 1000000) (hn : n ≤ 8 * s.size) (H : Own w0 w (Sta g rg s n out most e :: ps)) :
    Calls Try.prog 71 #[.pointer (some ⟨g, 0, none⟩), lv, .int .i64 N] w (Ret (RLenP w0 ps g rg s n T out most e N)) := by
  obtain ⟨la, lc, rfl, -⟩ := (hlv w H.drop).shape
  have KT := Lib.hid (rtable_any (hlv w H.drop) (by omega))
  go_enter Try.func71, Try.ntmps71
  go_wp2_with fail
  refine KT.out.mono ?_
  rintro e0 w1 ⟨_, rfl, u, rfl, J⟩
  replace H := H.join J
  clear J KT
  replace H : Own w0 w1 (Sta g rg s n out most e :: slc 3 1 u (cresF T).length (nums (cresF T)) :: ps) := H.swap
  have hC : Hid (e = 0 → cresF T = codesF T ∧ (codesF T).length = m) := Lib.hid (fun h => ⟨by unfold cresF; rw [if_pos (terr_cerr (hT h))], by rw [codesF_length, hTm]⟩)
  obtain ⟨C, hCe⟩ : ∃ C, Hid (cresF T = C) := ⟨_, rfl⟩
  obtain ⟨U, hU⟩ : ∃ U, Hid (C.length = U) := ⟨_, rfl⟩
  rw [hCe.out, hU.out] at H
  rw [hCe.out] at hC
  obtain ⟨ua, uc, rfl, -⟩ := (H.front 1 rfl).rd.shape
  have HTR : Hid (∀ (X : List Piece), e = 0 → TabR w0 (X ++ slc 3 1 (.slice ua U uc) U (nums C) :: ps) (.slice la m lc) (.slice ua U uc) m T ∧ (∀ x ∈ T, 0 ≤ x ∧ x ≤ 15) ∧ T.length = m ∧ m ≤ 1000000) := Lib.hid fun X h => by
    obtain ⟨h1, h2⟩ := hC.out h
    refine ⟨fun w' hw' => ⟨?_, ?_⟩, (table_ok (hT h)).2.1, hTm, by omega⟩
    · exact hlv w' (hw'.skip.drop)
    · have h3 := hw'.skip.rd
      have h4 : U = m := by rw [← hU.out, h1, h2]
      rw [h1, h4] at h3
      rw [h4]
      exact h3
  clear hlv hC hT
  go_upto_block 0 with (refine wpList_store_agg (vs := [.slice la m lc, .slice ua U uc]) rfl _ _ rfl rfl (H.alloc _) rfl (by kernel_rfl) (by simp) (by simp [Value.oneCell']) rfl ?_; clear H; intro w2 H)
  generalize w1.heap.size = tb at *
  obtain ⟨G, hG⟩ : ∃ G, Hid (lengthsG (textBits s) T N [] n = G) := ⟨_, rfl⟩
  replace H : Own w0 w2 (Sta g rg s n out most e :: slc 3 1 (.slice none 0 0) 0 (nums []) :: blk tb (.cells #[.slice la m lc, .slice ua U uc] 109) :: slc 3 1 (.slice ua U uc) U (nums C) :: ps) := (H.nil 3 1).front 2 rfl
  have hst : Hid (LInv (textBits s) G T N e [] n e) := Lib.hid ⟨fun _ => rfl, fun h => by rw [h, ← hG.out]; exact lst_start⟩
  have hpost : Hid (∀ r w', (∃ l n' e', n' ≤ 8 * s.size ∧ l.length ≤ N ∧ (e' = 0 → l.length = N) ∧ (e ≠ 0 → e' = e) ∧ (e = 0 → GotR G l n' e') ∧ Own w0 w' (slc 3 1 r l.length (nums l) :: Sta g rg s n' out most e' :: ps)) → RLenP w0 ps g rg s n T out most e N r w') := Lib.hid fun r w' h => by unfold RLenP; rw [hG.out]; exact h
  clear hG
  simp only [Act.put]
  go_wp2_with fail
  go_loopw [7] (fun v7 wx => ∃ (l : List Int) (n1 : Nat) (e1 : Int), l.length ≤ N ∧ n1 ≤ 8 * s.size ∧ Hid (LInv (textBits s) G T N e l n1 e1) ∧ Own w0 wx (Sta g rg s n1 out most e1 :: slc 3 1 v7 l.length (nums l) :: blk tb (.cells #[.slice la m lc, .slice ua U uc] 109) :: slc 3 1 (.slice ua U uc) U (nums C) :: ps)) (fun v7 wx => lmeas N v7 ((wx.cell? ⟨g, 3, none⟩).getD undef))
  case atStart => exact ⟨[], n, e, by simp, hn, hst, H⟩
  case round =>
    clear H hst hn
    obtain ⟨l, n1, e1, hl, hn1, hst, H⟩ := hrel
    obtain ⟨a, c, rfl, hc1, hc2⟩ := (H.front 1 rfl).rd.shape
    have hm0 := Lib.hid (lmeas_sta (N := N) (l := l) (a := a) (c := c) H)
    obtain ⟨M, hM⟩ : ∃ M, Hid (l.length = M) := ⟨_, rfl⟩
    have ce := H.sta_e
    rw [hM.out] at H hl hm0 hc1 ⊢
    obtain ⟨a1, c1, b1, _, _, HX⟩ := H.sta
    have cX := HX.cells
    by_cases hx : e1 ≠ 0 ∨ N ≤ M
    · have hfin : RLenP w0 ps g rg s n T out most e N (.slice a M c) wr := by
        refine hpost.out _ _ ⟨l, n1, e1, hn1, by rw [hM.out]; exact hl, fun h => by rw [hM.out]; omega, hst.out.1, fun h => lst_end (hst.out.2 h) (hx.imp id fun h => by rw [hM.out]; exact h), ?_⟩
        rw [hM.out]
        exact (((H.front 2 rfl).drop).front 2 rfl).drop.swap
      replace hfin := Lib.hid hfin
      by_cases hlt : M < N
      · have he : (e1 == 0) = false := by simp; omega
        have hlt2 : (M : Int) < N := by omega
        clear hx hst hm0 hpost
        go_wp2
        go_ret
        exact ⟨_, rfl, hfin.out⟩
      · have hlt2 : ¬ (M : Int) < N := by omega
        clear hx hst hm0 hpost
        go_wp2
        go_ret
        exact ⟨_, rfl, hfin.out⟩
    · obtain ⟨he1, hlt⟩ : e1 = 0 ∧ M < N := by omega
      subst he1
      have he : e = 0 := by
        rcases Int.decEq e 0 with h | h
        · exact absurd (hst.out.1 h) (fun h' => h h'.symm)
        · exact h
      subst he
      clear hx
      replace hm0 := Lib.hid (hm0.out.trans (if_pos rfl))
      replace hst := Lib.hid (hst.out.2 rfl)
      have hlt2 : (M : Int) < N := by omega
      have hlN : Hid (l.length < N) := Lib.hid (by rw [hM.out]; exact hlt)
      have HS := Lib.hid (rsym_any (g := g) (rg := rg) (HTR.out (slc 3 1 (.slice a M c) M (nums l) :: [blk tb (.cells #[.slice la m lc, .slice ua U uc] 109)])) hs hn1 H)
      have cT := (H.front 2 rfl).cells
      go_wp2_with fail
      refine HS.out.mono ?_
      rintro e0 w3 ⟨_, rfl, v, n2, e2, rfl, hv0, hv1, hn2, -, hg, H3⟩
      have hpl : Hid (LNext (textBits s) G T N l n2 v e2) := Lib.hid (lst_sym hst.out hlN.out (hg rfl))
      replace H3 : Own w0 w3 (Sta g rg s n2 out most e2 :: slc 3 1 (.slice a M c) M (nums l) :: blk tb (.cells #[.slice la m lc, .slice ua U uc] 109) :: slc 3 1 (.slice ua U uc) U (nums C) :: ps) := H3
      clear HS H hg hst HX cX cT ce
      by_cases hv : v < 16
      · have hst := Lib.hid (lst_lit hpl.out.get hv)
        clear hpl
        replace H3 := H3.swap
        go_wp2_with (at_builtin; refine wpList_append_one rfl _ _ rfl Try.underlying22 intInfo rfl (by decide) rfl H3 rfl rfl rfl (by simp [Value.oneCell']) (by omega) (by omega) ?_; clear H3; intro v' w' H; obtain ⟨a', c', rfl, h1', h2'⟩ := H.rd.shape)
        have hlen : M + 1 = (l ++ [v]).length := by rw [List.length_append, hM.out]; rfl
        have H4 : Own w0 w' (Sta g rg s n2 out most e2 :: slc 3 1 (.slice a' (M + 1) c') (l ++ [v]).length (nums (l ++ [v])) :: blk tb (.cells #[.slice la m lc, .slice ua U uc] 109) :: slc 3 1 (.slice ua U uc) U (nums C) :: ps) := by rw [← hlen, ← nums_append]; exact H.swap
        clear H
        go_roundw
        case rel => exact ⟨l ++ [v], n2, e2, by omega, hn2, Lib.hid ⟨fun h => absurd rfl h, fun _ => hst.out⟩, H4⟩
        case measure => rw [hm0.out]; rw [hlen]; rw [lmeas_sta (l := l ++ [v]) H4, ← hlen]; split <;> omega
      obtain ⟨x, hx⟩ : ∃ x, Hid ((if v = 16 then l.getD (l.length - 1) 0 else 0) = x) := ⟨_, rfl⟩
      have hp0 : ∀ e', e2 ≠ 0 → e' = e2 → ∀ v m, GotR G v m e' := fun e' h h' => by rw [h']; exact (hpl.out.get.1 h).2 h
      go_upto_if 36 with (fail)
      go_cut [11] (fun v11 wx => ∃ (k n3 : Nat) (E : Int), v11 = .int .i64 k ∧ 1 ≤ k ∧ k ≤ 70000 ∧ n3 ≤ 8 * s.size ∧ Hid (LSt (textBits s) G T N (agL N l k x) n3 (agE N l k E)) ∧ Own w0 wx (Sta g rg s n3 out most E :: slc 3 1 (.slice a M c) M (nums l) :: blk tb (.cells #[.slice la m lc, .slice ua U uc] 109) :: slc 3 1 (.slice ua U uc) U (nums C) :: ps))
      case first =>
        replace hp0 := Lib.hid hp0
        by_cases hv6 : v = 16
        · subst hv6
          have hMb : Hid (((M : Int) == 0) = decide (M = 0)) := Lib.hid (by by_cases h : M = 0 <;> simp [h])
          obtain ⟨mb, hmb⟩ : ∃ b, Hid (decide (M = 0) = b) := ⟨_, rfl⟩
          rw [hmb.out] at hMb
          have hMb1 := hMb.out
          have K1 := Lib.hid (rfault_any (g := g) (rg := rg) mb 2 H3)
          obtain ⟨eF, heF⟩ : ∃ x, Hid (fltF mb 2 e2 = x) := ⟨_, rfl⟩
          rw [heF.out] at K1
          have hp1 : Hid (eF = 0 → e2 = 0 ∧ l.length ≠ 0) := Lib.hid fun h => by
            rw [← heF.out] at h
            unfold fltF at h
            split at h
            · cases h
            · next h' => exact ⟨h, fun h0 => h' ⟨by rw [← hmb.out, decide_eq_true_eq, ← hM.out]; exact h0, h⟩⟩
          have hp2 : Hid (eF ≠ 0 → ∀ v m, GotR G v m eF) := Lib.hid fun h => by
            rw [← heF.out] at h ⊢
            by_cases h2 : e2 = 0
            · cases hmbv : mb with
              | true =>
                rw [h2, flt_yes]
                exact (hpl.out.get.2 h2).2.1 rfl (by rw [hM.out]; exact of_decide_eq_true (hmb.out.trans hmbv))
              | false => rw [hmbv, flt_no] at h; exact absurd h2 h
            · rw [flt_ne h2]; exact hp0.out _ h2 rfl
          go_wp2_with fail
          refine K1.out.mono ?_
          rintro e5 w5 ⟨_, rfl, HX⟩
          clear K1 H3 heF hmb hMb hMb1
          have HT := Lib.hid (rtk_any 2 (by omega) HX hs hn2)
          go_wp2_with fail
          refine HT.out.mono ?_
          rintro e4 w4 ⟨_, rfl, V, n3, E, rfl, hV0, hV1, hn3, hE, hg, H4⟩
          have hst := Lib.hid (lst_more (l := l) (N := N) (T := T) (x := x) (b := 3) (j := 2) (n1 := n2) (fun h => by rw [(hpl.out.get.2 (hp1.out h).1).2.2.1 rfl (hp1.out h).2, ← hx.out, if_pos trivial]) hp2.out hg (fun h => (hE h).1))
          obtain ⟨V, rfl⟩ : ∃ k : Nat, V = k := ⟨V.toNat, by omega⟩
          rw [Int.toNat_natCast] at hst
          clear HT HX
          go_wp2
          go_meet
          exact ⟨3 + V, n3, E, by simp, by omega, by omega, hn3, hst, H4⟩
        · have hv6b : (v == 16) = false := by simp [hv6]
          rw [if_neg hv6] at hx
          by_cases hv7 : v = 17
          · subst hv7
            have HX := H3
            have HT := Lib.hid (rtk_any 3 (by omega) HX hs hn2)
            go_wp2_with fail
            refine HT.out.mono ?_
            rintro e4 w4 ⟨_, rfl, V, n3, E, rfl, hV0, hV1, hn3, hE, hg, H4⟩
            have hst := Lib.hid (lst_more (l := l) (N := N) (T := T) (x := x) (b := 3) (j := 3) (n1 := n2) (fun h => by rw [(hpl.out.get.2 h).2.2.2.1 rfl, ← hx.out]) (fun h => hp0.out _ h rfl) hg (fun h => (hE h).1))
            obtain ⟨V, rfl⟩ : ∃ k : Nat, V = k := ⟨V.toNat, by omega⟩
            rw [Int.toNat_natCast] at hst
            clear HT HX
            go_wp2
            go_meet
            exact ⟨3 + V, n3, E, by simp, by omega, by omega, hn3, hst, H4⟩
          · have hv7b : (v == 17) = false := by simp [hv7]
            have HX := H3
            have HT := Lib.hid (rtk_any 7 (by omega) HX hs hn2)
            go_wp2_with fail
            refine HT.out.mono ?_
            rintro e4 w4 ⟨_, rfl, V, n3, E, rfl, hV0, hV1, hn3, hE, hg, H4⟩
            have hst := Lib.hid (lst_more (l := l) (N := N) (T := T) (x := x) (b := 11) (j := 7) (n1 := n2) (fun h => by rw [(hpl.out.get.2 h).2.2.2.2 (by omega), ← hx.out]) (fun h => hp0.out _ h rfl) hg (fun h => (hE h).1))
            obtain ⟨V, rfl⟩ : ∃ k : Nat, V = k := ⟨V.toNat, by omega⟩
            rw [Int.toNat_natCast] at hst
            clear HT HX
            go_wp2
            go_meet
            exact ⟨11 + V, n3, E, by simp, by omega, by omega, hn3, hst, H4⟩
      case rest =>
      clear hpl hp0 H3
      obtain ⟨k, n3, E, rfl, hk1, hk2, hn3, hst, H⟩ := hcut
      have hlt3 : Hid (decide ((N : Int) - M < k) = decide ((N : Int) - l.length < k)) := Lib.hid (by rw [hM.out])
      obtain ⟨bd, hbd⟩ : ∃ b, Hid (decide ((N : Int) - M < k) = b) := ⟨_, rfl⟩
      have hagE : Hid (agE N l k E = fltF bd 2 E) := Lib.hid (by rw [agE_flt, ← hlt3.out, hbd.out])
      obtain ⟨E2, hE2⟩ : ∃ x, Hid (fltF bd 2 E = x) := ⟨_, rfl⟩
      rw [hagE.out, hE2.out] at hst
      have hag : Hid (E2 = 0 → agL N l k x = l ++ List.replicate k x ∧ M + k ≤ N) := Lib.hid fun h => by
        have h1 : ¬ N < l.length + k := fun h2 => by
          rw [← hE2.out, ← hagE.out] at h
          unfold agE at h
          rw [if_pos h2] at h
          split at h
          · cases h
          · next h3 => exact h3 h
        refine ⟨by unfold agL; rw [if_neg h1], by rw [← hM.out]; omega⟩
      have K1 := Lib.hid (rfault_any (g := g) (rg := rg) bd 2 H)
      rw [hE2.out] at K1
      have hbd1 := hbd.out
      have hw1 : IntKind.i64.wrap ((N : Int) - (M : Int)) = (N : Int) - M := IntWalk.i64_in _ ⟨by omega, by omega⟩
      clear hlt3 hagE hE2
      go_wp2_with fail
      refine K1.out.mono ?_
      rintro e4 w4 ⟨_, rfl, H4⟩
      clear K1 H hbd hbd1
      by_cases hv : v = 16
      case' pos =>
        have hvb : (v == 16) = true := by simp [hv]
        rw [if_pos hv] at hx
        clear hv
        go_upto_if 67 with (fail)
        go_cut [10] (fun v10 wx => wx = w4 ∧ v10 = .int .i64 x)
        case first =>
          by_cases hM0 : M = 0
          · have hx0 : Hid (x = 0) := Lib.hid (by rw [← hx.out, hM.out, hM0]; have := hM.out; rw [hM0] at this; rw [List.eq_nil_of_length_eq_zero this]; rfl)
            have hM1 : ¬ (0 : Int) < (M : Int) := by omega
            clear hM0 hx
            go_wp2
            go_meet
            exact ⟨rfl, by rw [hx0.out]⟩
          · have hM1 : (0 : Int) < (M : Int) := by omega
            obtain ⟨K, rfl⟩ : ∃ K, M = K + 1 := ⟨M - 1, by omega⟩
            obtain ⟨bK, oK, e6, cK⟩ := rd_at (H4.front 1 rfl).rd (Own.start w4) (i := K) (by omega)
            cases e6
            have hxK : l.getD K 0 = x := by rw [← hx.out, hM.out]; rfl
            rw [hxK] at cK
            clear hM0 hx hxK
            go_wp2
            go_meet
            exact ⟨rfl, rfl⟩
        case' rest => obtain ⟨rfl, rfl⟩ := hcut
      case' neg =>
        have hvb : (v == 16) = false := by simp [hv]
        rw [if_neg hv] at hx
        clear hv
        go_upto_if 67 with (fail)
        go_cut [10] (fun v10 wx => wx = w4 ∧ v10 = .int .i64 x)
        case first =>
          go_wp2
          go_meet
          exact ⟨rfl, by rw [← hx.out]⟩
        case' rest => obtain ⟨rfl, rfl⟩ := hcut
      all_goals
        clear hx hvb
        by_cases hE0 : E2 = 0
        · subst hE0
          obtain ⟨hag1, hMk⟩ := hag.out rfl
          rw [hag1] at hst
          clear hag hag1
          go_wp2_with fail
          go_loopw [7, 12] (fun v7 v12 wx => ∃ j : Nat, v12 = .int .i64 j ∧ j ≤ k ∧ Own w0 wx (Sta g rg s n3 out most 0 :: slc 3 1 v7 (M + j) (nums (l ++ List.replicate j x)) :: blk tb (.cells #[.slice la m lc, .slice ua U uc] 109) :: slc 3 1 (.slice ua U uc) U (nums C) :: ps)) (fun _ v12 _ => k - (intOf v12).toNat)
          case atStart => exact ⟨0, by go_num, by omega, by simpa using H4⟩
          case round =>
            clear H4
            obtain ⟨j, rfl, hj, H⟩ := hrel
            obtain ⟨a2, c2, rfl, hc3, hc4⟩ := (H.front 1 rfl).rd.shape
            obtain ⟨a3, c3, b3, _, _, HX⟩ := H.sta
            have cX := HX.cells
            by_cases hjk : j < k
            · have hjI : (j : Int) < (k : Int) := by omega
              replace H := H.swap
              clear HX
              go_wp2_with (at_builtin; refine wpList_append_one rfl _ _ rfl Try.underlying22 intInfo rfl (by decide) rfl H rfl rfl rfl (by simp [Value.oneCell']) (by omega) (by omega) ?_; clear H cX; intro v' w' H; obtain ⟨a', c', rfl, h1', h2'⟩ := H.rd.shape)
              have H5 : Own w0 w' (Sta g rg s n3 out most 0 :: slc 3 1 (.slice a' (M + (j + 1)) c') (M + (j + 1)) (nums (l ++ List.replicate (j + 1) x)) :: blk tb (.cells #[.slice la m lc, .slice ua U uc] 109) :: slc 3 1 (.slice ua U uc) U (nums C) :: ps) := by
                rw [List.replicate_succ', ← List.append_assoc, ← nums_append, ← Nat.add_assoc]; exact H.swap
              rw [Nat.add_assoc]
              clear H
              go_wp2
              go_roundw
              case rel => exact ⟨j + 1, by go_num, by omega, H5⟩
              case measure => simp [intOf]; omega
            · obtain rfl : j = k := by omega
              have hjI : ¬ (j : Int) < (j : Int) := by omega
              have hlen : M + j = (l ++ List.replicate j x).length := by rw [List.length_append, List.length_replicate, hM.out]
              clear HX
              go_wp2
              go_roundw
              case rel => exact ⟨l ++ List.replicate j x, n3, 0, by omega, hn3, Lib.hid ⟨fun h => absurd rfl h, fun _ => hst.out⟩, by rw [← hlen]; exact H⟩
              case measure => rw [hm0.out]; rw [hlen] at H ⊢; rw [lmeas_sta (l := l ++ List.replicate j x) H, ← hlen]; split <;> omega
        · have hE1 : (E2 == 0) = false := by simp [hE0]
          replace hst := Lib.hid (lst_any (l' := l) (n' := n3) hst.out hE0)
          clear hag
          go_wp2_with fail
          go_loopw [7, 12] (fun v7 v12 wx => v7 = .slice a M c ∧ v12 = .int .i64 0 ∧ Own w0 wx (Sta g rg s n3 out most E2 :: slc 3 1 (.slice a M c) M (nums l) :: blk tb (.cells #[.slice la m lc, .slice ua U uc] 109) :: slc 3 1 (.slice ua U uc) U (nums C) :: ps)) (fun _ _ _ => 0)
          case atStart => exact ⟨rfl, rfl, H4⟩
          case round =>
            clear H4
            obtain ⟨rfl, rfl, H4⟩ := hrel
            obtain ⟨a3, c3, b3, _, _, HX⟩ := H4.sta
            have cX := HX.cells
            have hkI : (0 : Int) < (k : Int) := by omega
            clear HX
            go_wp2
            go_roundw
            case rel => exact ⟨l, n3, E2, by rw [hM.out]; omega, hn3, Lib.hid ⟨fun h => absurd rfl h, fun _ => hst.out⟩, by rw [hM.out]; exact H4⟩
            case measure =>
              rw [hm0.out]
              have h8 := lmeas_sta (N := N) (l := l) (a := a) (c := c) H4
              rw [hM.out, if_neg hE0] at h8
              rw [h8]; omega
end Go.Proofs.Ytpbodonmiepilaa
/- huff: the walks of the document's plain functions. -/
namespace Go.Proofs.Ytpbodonmiepilaa
open Go.RowKit



theorem rused_any {w : World} {v : Value} {n : Nat} {F : List Int} (hr : Rd w 1 v n (nums F)) (hn : n ≤ 1000000) :
    Calls Try.prog 93 #[v] w (Ret fun r w' => r = .int .i64 (usedF F).length ∧ Own w w' []) := by
  have hl := Lib.hid (rd_len hr)
  obtain ⟨a, c, rfl, hc1, hc2⟩ := hr.shape
  have HR := Lib.hid hr
  have H := Own.start w
  obtain ⟨Z, hZ⟩ : ∃ Z, Hid ((usedF F).length = Z) := ⟨_, rfl⟩
  rw [hZ.out]
  clear hr
  go_enter Try.func93, Try.ntmps93
  go_wp2_with fail
  go_loopw [3, 4] (fun s3 s4 wx => ∃ i : Nat, s4 = .int .i64 i ∧ i ≤ n ∧ s3 = .int .i64 (usedN F i).length ∧ Own w wx []) (fun _ s4 _ => n - (intOf s4).toNat)
  case atStart => exact ⟨0, by go_num, by omega, by simp [usedN], H⟩
  case round =>
    clear H
    obtain ⟨i, rfl, hi, rfl, H⟩ := hrel
    have hu := usedN_length F i
    by_cases hlt : i < n
    · obtain ⟨b, o, rfl, c1⟩ := rd_at HR.out H hlt
      have hus : usedN F (i + 1) = if 0 < F.getD i 0 then usedN F i ++ [(i : Int)] else usedN F i := rfl
      obtain ⟨x, hx⟩ : ∃ x, Hid (F.getD i 0 = x) := ⟨_, rfl⟩
      obtain ⟨q, hq⟩ : ∃ q, Hid ((usedN F i).length = q) := ⟨_, rfl⟩
      rw [hx.out] at c1 hus
      have hI : (i : Int) < (n : Int) := by omega
      by_cases hpos : 0 < x
      · have HU : Hid ((usedN F (i + 1)).length = q + 1) := Lib.hid (by rw [hus, if_pos hpos, List.length_append, hq.out]; rfl)
        rw [hq.out] at hu ⊢
        clear hus
        go_wp2_with fail
        go_roundw
        case rel => exact ⟨i + 1, by go_num, by omega, by rw [HU.out]; go_num, H⟩
        case measure => simp [intOf]; omega
      · have HU : Hid ((usedN F (i + 1)).length = q) := Lib.hid (by rw [hus, if_neg hpos, hq.out])
        rw [hq.out] at hu ⊢
        clear hus
        go_wp2_with fail
        go_roundw
        case rel => exact ⟨i + 1, by go_num, by omega, by rw [HU.out], H⟩
        case measure => simp [intOf]; omega
    · obtain rfl : i = n := by omega
      have e : Hid ((usedN F i).length = (usedF F).length) := Lib.hid (by unfold usedF; rw [hl.out])
      rw [e.out, hZ.out] at hu ⊢
      go_wp2
      go_ret
      exact ⟨_, rfl, rfl, H⟩

end Go.Proofs.Ytpbodonmiepilaa
/- huff: the walks of New and of the document's MayTable. -/
namespace Go.Proofs.Ytpbodonmiepilaa
open Go.RowKit

set_option maxHeartbeats 1600000 in
theorem rmaytable_any {w : World} {v : Value} {n : Nat} {F : List Int} (hr : Rd w 1 v n (nums F)) (hn : n ≤ 1000000) :
    Calls Try.prog 70 #[v] w (Ret fun r w' => r = .int .i64 (terrF F) ∧ Own w w' []) := by
  have hl := Lib.hid (rd_len hr)
  obtain ⟨a, c, rfl, hc1, hc2⟩ := hr.shape
  have HR := Lib.hid hr
  have H := Own.start w
  obtain ⟨er, her⟩ : ∃ er, Hid (terrF F = er) := ⟨_, rfl⟩
  rw [her.out]
  obtain ⟨Z, hZ⟩ : ∃ Z, Hid (mayF F = Z) := ⟨_, rfl⟩
  clear hr
  go_enter Try.func70, Try.ntmps70
  go_wp2_with fail
  refine (rmay_any (HR.out.old H) hn).mono ?_
  rintro e w1 ⟨_, rfl, rfl, H1⟩
  have H := H.join H1
  clear H1
  rw [hZ.out]
  cases Z with
  | false =>
    have e1 : Hid (er = 1) := Lib.hid (by rw [← her.out]; unfold terrF; rw [hZ.out]; rfl)
    go_wp2_with fail
    go_ret
    exact ⟨_, rfl, by rw [e1.out]; rfl, H⟩
  | true =>
    have hm := mayF_len hZ.out
    go_wp2_with fail
    refine (rweight_any (HR.out.old H) hn hm.2).mono ?_
    rintro e w2 ⟨_, rfl, rfl, H1⟩
    have H := H.join H1
    clear H1
    go_wp2_with fail
    refine (rused_any (HR.out.old H) hn).mono ?_
    rintro e w3 ⟨_, rfl, rfl, H1⟩
    have H := H.join H1
    clear H1
    have her2 : er = if sumF wtF F = 32768 ∨ (usedF F).length = 0 ∨ (usedF F).length = 1 ∧ sumF wtF F = 16384 then 0 else 2 := by rw [← her.out]; unfold terrF; rw [hZ.out, if_pos rfl]
    generalize sumF wtF F = wt at *
    generalize (usedF F).length = u at *
    clear hm
    have fin : (er = 0 ∧ (wt = 32768 ∨ u = 0 ∨ u = 1 ∧ wt = 16384)) ∨ (er = 2 ∧ wt ≠ 32768 ∧ u ≠ 0 ∧ ¬ (u = 1 ∧ wt = 16384)) := by
      by_cases h : wt = 32768 ∨ u = 0 ∨ u = 1 ∧ wt = 16384
      · exact .inl ⟨by rw [her2, if_pos h], h⟩
      · exact .inr ⟨by rw [her2, if_neg h], by omega, by omega, by omega⟩
    clear her2
    rcases fin with ⟨h0, h⟩ | ⟨h0, h1, h2, h3⟩
    · have e0 := Lib.hid h0
      clear h0
      by_cases g1 : wt = 32768
      · subst g1
        clear h
        go_wp2_with fail
        go_ret
        exact ⟨_, rfl, by rw [e0.out]; rfl, H⟩
      · have g1b : (wt == 32768) = false := by simpa using g1
        by_cases g2 : u = 0
        · subst g2
          clear h
          go_wp2_with fail
          go_ret
          exact ⟨_, rfl, by rw [e0.out]; rfl, H⟩
        · have g2b : ((u : Int) == 0) = false := by simp; omega
          obtain ⟨rfl, rfl⟩ : u = 1 ∧ wt = 16384 := by omega
          clear h
          go_wp2_with fail
          go_ret
          exact ⟨_, rfl, by rw [e0.out]; rfl, H⟩
    · have e0 := Lib.hid h0
      clear h0
      have g1b : (wt == 32768) = false := by simpa using h1
      have g2b : ((u : Int) == 0) = false := by simp; omega
      by_cases g3 : u = 1
      · subst g3
        have g4 : (wt == 16384) = false := by simp; omega
        clear h1 h2 h3
        go_wp2_with fail
        go_ret
        exact ⟨_, rfl, by rw [e0.out]; rfl, H⟩
      · have g3b : ((u : Int) == 1) = false := by simp; omega
        clear h1 h2 h3
        go_wp2_with fail
        go_ret
        exact ⟨_, rfl, by rw [e0.out]; rfl, H⟩
end Go.Proofs.Ytpbodonmiepilaa
/- inflate, the document's: the walk of told. -/
namespace Go.Proofs.Ytpbodonmiepilaa
open Go.RowKit

def ordL : List Int := [16, 17, 18, 0, 8, 7, 9, 6, 10, 5, 11, 4, 12, 3, 13, 2, 14, 1, 15]
theorem ordL_get : ∀ i : Fin 19, ordL.getD i.1 0 = ((ordN i.1 : Nat) : Int) := by decide
/-- A taking, its values told. -/
def rkV (s : ByteArray) (n k : Nat) (e : Int) : Int := if e = 0 then tkV s n k else 0
def rkN (s : ByteArray) (n k : Nat) (e : Int) : Nat := if e = 0 then tkN s n k else n
def rkE (s : ByteArray) (n k : Nat) (e : Int) : Int := if e = 0 then tkE s n k 0 else e
theorem rk_facts {s : ByteArray} {n k : Nat} {e : Int} (hk : k ≤ 16) (hn : n ≤ 8 * s.size) : 0 ≤ rkV s n k e ∧ rkV s n k e < 65536 ∧ rkN s n k e ≤ 8 * s.size ∧ (e ≠ 0 → rkE s n k e = e ∧ rkV s n k e = 0) ∧ (e = 0 → GotR (takeG (textBits s) k n) (rkV s n k e) (rkN s n k e) (rkE s n k e)) := by
  unfold rkV rkN rkE
  by_cases he : e = 0
  · rw [if_pos he, if_pos he, if_pos he]
    obtain ⟨hg, hn', -⟩ := tk_got (s := s) (n := n) (k := k) (by omega) hn
    obtain ⟨hv0, hv1⟩ := tkV_bd (s := s) (n := n) hk
    replace hg : GotR (takeG (textBits s) k n) (tkV s n k) (tkN s n k) (tkE s n k 0) := by simpa [tkE] using hg
    exact ⟨hv0, hv1, hn', fun h => absurd he h, fun _ => hg⟩
  · rw [if_neg he, if_neg he, if_neg he]
    exact ⟨by omega, by omega, hn, fun _ => ⟨rfl, rfl⟩, fun h => absurd h he⟩
set_option maxHeartbeats 800000 in
theorem rtake_kn {w0 w : World} {ps : List Piece} {g rg n : Nat} {s : ByteArray} {out : List Int} {most e : Int} (k : Nat) (hk : k ≤ 16) (H : Own w0 w (Sta g rg s n out most e :: ps)) (hs : s.size ≤ 1000000) (hn : n ≤ 8 * s.size) :
    Calls Try.prog 40 #[.pointer (some ⟨g, 0, none⟩), .int .i64 k] w (Ret fun r w' => r = .int .i64 (rkV s n k e) ∧ Own w0 w' (Sta g rg s (rkN s n k e) out most (rkE s n k e) :: ps)) := by
  unfold rkV rkN rkE
  by_cases he : e = 0
  · subst he
    rw [if_pos rfl, if_pos rfl, if_pos rfl]
    exact rtake_tk k hk H hs hn
  · rw [if_neg he, if_neg he, if_neg he]
    obtain ⟨a, c, b, h1, h2, H⟩ := H.sta
    have c0 := H.cells
    have hb : (e == 0) = false := by simp [he]
    have hb2 : (e != 0) = true := by simp [he]
    go_enter Try.func40, Try.ntmps40
    go_wp2
    go_ret
    exact ⟨_, rfl, rfl, H.unsta rfl⟩
theorem dst_end2 {bs : List Bool} {G : Got (List Int × List Int)} {a b : Int} {c4 k n : Nat} {xs X : List Int} (h : DSt bs G a b c4 k xs X n 0) (hc : c4 ≤ k) : X = unordF xs ∧ G = codesC bs a b xs n := by
  obtain ⟨h1, h2, h3⟩ := h.1 rfl
  rw [show c4 - k = 0 by omega, lensG, Got.bind_ok] at h3
  exact ⟨h2, h3⟩
/-- What told leaves. -/
def RTolP (w0 : World) (ps : List Piece) (g rg : Nat) (s : ByteArray) (out : List Int) (most : Int) (G : Got (List Int × List Int)) (r : Value) (w' : World) : Prop :=
  ∃ (v u : Value) (LD : List Int × List Int) (n' : Nat) (e' : Int), r = .tuple #[v, u] ∧ n' ≤ 8 * s.size ∧ GotR G LD n' e' ∧ (e' ≠ 0 → Own w0 w' (Sta g rg s n' out most e' :: ps)) ∧
    (e' = 0 → terrF LD.1 = 0 ∧ terrF LD.2 = 0 ∧ ∃ q : Piece, Own w0 w' (Sta g rg s n' out most e' :: q :: ps) ∧ ∀ w2 qs, Own w0 w2 (q :: qs) → Rd w2 1 v LD.1.length (nums LD.1) ∧ Rd w2 1 u LD.2.length (nums LD.2))
set_option maxRecDepth 100000 in
set_option maxHeartbeats 6400000 in
theorem rtold_any {w0 w : World} {ps : List Piece} {g rg n : Nat} {s : ByteArray} {out : List Int} {most : Int} (hs : s.size ≤ 1000000) (hn : n ≤ 8 * s.size) (H : Own w0 w (Sta g rg s n out most 0 :: ps)) :
    Calls Try.prog 45 #[.pointer (some ⟨g, 0, none⟩)] w (Ret (RTolP w0 ps g rg s out most (codesG (textBits s) n))) := by
  obtain ⟨B, hB⟩ : ∃ B, Hid (textBits s = B) := ⟨_, rfl⟩
  obtain ⟨G, hG⟩ : ∃ G, Hid (codesG B n = G) := ⟨_, rfl⟩
  rw [hB.out, hG.out]
  go_enter Try.func45, Try.ntmps45
  have HT := Lib.hid (rtk_any 5 (by omega) H hs hn)
  go_wp2_with fail
  refine HT.out.mono ?_
  rintro e w1 ⟨_, rfl, v1, n1, e1, rfl, hv1, hv1', hn1, -, hg1, H1⟩
  replace hg1 := Lib.hid (hg1 trivial)
  clear HT H
  have HT := Lib.hid (rtk_any 5 (by omega) H1 hs hn1)
  go_wp2_with fail
  refine HT.out.mono ?_
  rintro e w2 ⟨_, rfl, v2, n2, e2, rfl, hv2, hv2', hn2, he2, hg2, H2⟩
  replace hg2 := Lib.hid hg2
  replace he2 := Lib.hid fun h => (he2 h).1
  clear HT H1
  have HT := Lib.hid (rtk_any 4 (by omega) H2 hs hn2)
  go_wp2_with fail
  refine HT.out.mono ?_
  rintro e w3 ⟨_, rfl, v3, n3, e3, rfl, hv3, hv3', hn3, he3, hg3, H⟩
  have hst := Lib.hid (dst_start hg1.out he2.out hg2.out (fun h => (he3 h).1) hg3)
  clear HT H2 hg1 hg2 he2 hg3 he3
  rw [hB.out, hG.out] at hst
  obtain ⟨A, rfl⟩ : ∃ A : Nat, v1 = A := ⟨v1.toNat, by omega⟩
  obtain ⟨D, rfl⟩ : ∃ D : Nat, v2 = D := ⟨v2.toNat, by omega⟩
  obtain ⟨C, rfl⟩ : ∃ C : Nat, v3 = C := ⟨v3.toNat, by omega⟩
  have hw1 : IntKind.i64.wrap (257 + (A : Int)) = 257 + (A : Int) := IntWalk.i64_in _ ⟨by omega, by omega⟩
  have hw2 : IntKind.i64.wrap (1 + (D : Int)) = 1 + (D : Int) := IntWalk.i64_in _ ⟨by omega, by omega⟩
  have hw3 : IntKind.i64.wrap (4 + (C : Int)) = 4 + (C : Int) := IntWalk.i64_in _ ⟨by omega, by omega⟩
  replace hst : Hid ((e3 = 0 → A < 32 ∧ D < 32 ∧ C < 16) ∧ ((29 < A ∨ 29 < D) → ∀ (v : List Int × List Int) (m : Nat), GotR G v m (if e3 = 0 then 2 else e3)) ∧ (¬ (29 < A ∨ 29 < D) → DSt B G A D (4 + C) 0 [] (zerosF 19) n3 e3)) := Lib.hid (by
    have h := hst.out
    simp only [Int.toNat_natCast] at h
    refine ⟨fun h0 => by have := h.1 h0; omega, fun hx => h.2.1 (by omega), fun hx => h.2.2 (by omega)⟩)
  go_upto_region 4 with (fail)
  go_cut [] (fun wx => ∃ e4 : Int, Hid (e4 = 0 → A ≤ 29 ∧ D ≤ 29 ∧ C < 16) ∧ Hid (DSt B G A D (4 + C) 0 [] (zerosF 19) n3 e4) ∧ Own w0 wx (Sta g rg s n3 out most e4 :: ps))
  case first =>
    have h2 : Hid ((29 < A ∨ 29 < D) → fltF true 2 e3 = (if e3 = 0 then 2 else e3) ∧ fltF true 2 e3 ≠ 0) := Lib.hid fun _ => by
      unfold fltF
      by_cases h0 : e3 = 0 <;> simp [h0]
    by_cases hx1 : 29 < A
    · have h1' : (286 : Int) < 257 + (A : Int) := by omega
      have h3 := Lib.hid (h2.out (.inl hx1))
      have h4 := Lib.hid (hst.out.2.1 (.inl hx1))
      have HH := Lib.hid (rfault_any (g := g) (rg := rg) true 2 H)
      clear hx1 h2
      go_wp2_with fail
      refine HH.out.mono ?_
      rintro e w4 ⟨_, rfl, H4⟩
      clear HH
      go_wp2
      go_meet
      exact ⟨_, Lib.hid fun h => absurd h h3.out.2, Lib.hid ⟨fun h => absurd h h3.out.2, fun _ => by rw [h3.out.1]; exact h4.out⟩, H4⟩
    · have h1' : ¬ (286 : Int) < 257 + (A : Int) := by omega
      by_cases hx2 : 29 < D
      · have h2' : (30 : Int) < 1 + (D : Int) := by omega
        have h3 := Lib.hid (h2.out (.inr hx2))
        have h4 := Lib.hid (hst.out.2.1 (.inr hx2))
        have HH := Lib.hid (rfault_any (g := g) (rg := rg) true 2 H)
        clear hx1 hx2 h2
        go_wp2_with fail
        refine HH.out.mono ?_
        rintro e w4 ⟨_, rfl, H4⟩
        clear HH
        go_wp2
        go_meet
        exact ⟨_, Lib.hid fun h => absurd h h3.out.2, Lib.hid ⟨fun h => absurd h h3.out.2, fun _ => by rw [h3.out.1]; exact h4.out⟩, H4⟩
      · have h2' : ¬ (30 : Int) < 1 + (D : Int) := by omega
        have h3 := Lib.hid (hst.out.2.2 (by omega))
        have h4 : Hid (e3 = 0 → A ≤ 29 ∧ D ≤ 29 ∧ C < 16) := Lib.hid fun h0 => by have := hst.out.1 h0; omega
        have HH := Lib.hid (rfault_any (g := g) (rg := rg) false 2 H)
        rw [flt_no] at HH
        clear hx1 hx2 h2
        go_wp2_with fail
        refine HH.out.mono ?_
        rintro e w4 ⟨_, rfl, H4⟩
        clear HH
        go_wp2
        go_meet
        exact ⟨e3, h4, h3, H4⟩
  case rest =>
  clear hst H
  obtain ⟨e4, hb4, hst, H⟩ := hcut
  clear hv1 hv2 hv3
  go_upto_region 5 with (fail)
  have HA : Own w0 (wc.alloc (.cells #[.int .i64 16, .int .i64 17, .int .i64 18, .int .i64 0, .int .i64 8, .int .i64 7, .int .i64 9, .int .i64 6, .int .i64 10, .int .i64 5, .int .i64 11, .int .i64 4, .int .i64 12, .int .i64 3, .int .i64 13, .int .i64 2, .int .i64 14, .int .i64 1, .int .i64 15] 3)) (slc 3 1 (.slice (some ⟨wc.heap.size, 0, none⟩) 19 19) 19 (nums ordL) :: Sta g rg s n3 out most e4 :: ps) := H.made (nums ordL) 3 1 19 rfl (by simp [maxLen])
  go_upto_region 6 with (fail)
  generalize wc.alloc _ = w5 at *
  generalize wc.heap.size = bA at *
  clear H
  replace HA := HA.nil 3 1
  go_wp2_with fail
  go_loopw [8, 9] (fun v8 v9 wx => ∃ k : Nat, v9 = .int .i64 k ∧ k ≤ 19 ∧ Own w0 wx (slc 3 1 v8 k (nums (zerosF k)) :: slc 3 1 (.slice (some ⟨bA, 0, none⟩) 19 19) 19 (nums ordL) :: Sta g rg s n3 out most e4 :: ps)) (fun _ v9 _ => 19 - (intOf v9).toNat)
  case atStart => exact ⟨0, by go_num, by omega, HA⟩
  case round =>
    clear HA
    obtain ⟨k, rfl, hk, H⟩ := hrel
    obtain ⟨a8, c8, rfl, hc81, hc82⟩ := H.rd.shape
    by_cases hk19 : k < 19
    · have hkI : (k : Int) < 19 := by omega
      go_wp2_with (at_builtin; refine wpList_append_one rfl _ _ rfl Try.underlying22 intInfo rfl (by decide) rfl H rfl rfl rfl (by simp [Value.oneCell']) (by omega) (by omega) ?_; clear H; intro v' w' H; obtain ⟨a', c', rfl, h1', h2'⟩ := H.rd.shape)
      have H5 : Own w0 w' (slc 3 1 (.slice a' (k + 1) c') (k + 1) (nums (zerosF (k + 1))) :: slc 3 1 (.slice (some ⟨bA, 0, none⟩) 19 19) 19 (nums ordL) :: Sta g rg s n3 out most e4 :: ps) := by
        unfold zerosF
        rw [List.replicate_succ', ← nums_append]; exact H
      clear H
      go_wp2
      go_roundw
      case rel => exact ⟨k + 1, by go_num, by omega, H5⟩
      case measure => simp [intOf]; omega
    · obtain rfl : k = 19 := by omega
      have hkI : ¬ ((19 : Nat) : Int) < 19 := by omega
      obtain ⟨b8, c', e8, -, -, -, -, -, -⟩ := H.at (by rw [nums_length]; decide)
      cases e8
      clear hk hk19
      go_wp2_with fail
      go_loopw [10] (fun v10 wx => ∃ (k : Nat) (xs X : List Int) (n4 : Nat) (e : Int), v10 = .int .i64 k ∧ k ≤ 19 ∧ X.length = 19 ∧ n4 ≤ 8 * s.size ∧ Hid (e = 0 → A ≤ 29 ∧ D ≤ 29 ∧ C < 16) ∧ Hid (DSt B G A D (4 + C) k xs X n4 e) ∧ Own w0 wx (slc 3 1 (.slice (some ⟨b8, 0, none⟩) 19 c8) 19 (nums X) :: slc 3 1 (.slice (some ⟨bA, 0, none⟩) 19 19) 19 (nums ordL) :: Sta g rg s n4 out most e :: ps)) (fun v10 _ => 19 - (intOf v10).toNat)
      case atStart => exact ⟨0, [], zerosF 19, n3, e4, by go_num, by omega, rfl, hn3, hb4, hst, H⟩
      case round =>
        clear H hst hb4
        obtain ⟨k, xs, X, n4, e, rfl, hk, hX, hn4, hb4, hst, H⟩ := hrel
        replace hX := Lib.hid hX
        by_cases hkc : k < 4 + C ∧ k < 19
        · obtain ⟨hkc, hk19⟩ := hkc
          have hkI : (k : Int) < 19 := by omega
          have hkcI : (k : Int) < 4 + (C : Int) := by omega
          have ho19 := ordN_lt ⟨k, hk19⟩
          simp only at ho19
          have hog : ordL.getD k 0 = ((ordN k : Nat) : Int) := ordL_get ⟨k, hk19⟩
          obtain ⟨oj, hoj⟩ : ∃ oj, Hid (ordN k = oj) := ⟨_, rfl⟩
          rw [hoj.out] at ho19 hog
          have hojI : (oj : Int) < 19 := by omega
          have HR : Hid (∀ (w' : World) (q : Piece) (qs : List Piece), Own w0 w' (q :: slc 3 1 (.slice (some ⟨bA, 0, none⟩) 19 19) 19 (nums ordL) :: qs) → w'.cell? ⟨bA, k, none⟩ = some (.int .i64 oj)) := Lib.hid fun w' q qs h => by
            obtain ⟨_, _, e7, h7⟩ := rd_at (h.front 1 rfl).rd (Own.start w') hk19
            cases e7
            rw [hog, Nat.zero_add] at h7
            exact h7
          obtain ⟨hf1, hf2, hf3, hf4, hf5⟩ := rk_facts (s := s) (n := n4) (k := 3) (e := e) (by omega) hn4
          have HT := Lib.hid (fun wz (pz : List Piece) (h : Own w0 wz (Sta g rg s n4 out most e :: pz)) => rtake_kn 3 (by omega) h hs hn4)
          obtain ⟨V, hV⟩ : ∃ V, Hid (rkV s n4 3 e = V) := ⟨_, rfl⟩
          obtain ⟨M, hM⟩ : ∃ M, Hid (rkN s n4 3 e = M) := ⟨_, rfl⟩
          obtain ⟨E, hE⟩ : ∃ E, Hid (rkE s n4 3 e = E) := ⟨_, rfl⟩
          rw [hV.out, hM.out, hE.out] at HT hf5
          rw [hV.out] at hf1 hf2
          rw [hM.out] at hf3
          rw [hE.out, hV.out] at hf4
          have hst2 : Hid (DSt B G A D (4 + C) (k + 1) (xs ++ [V]) (X.set oj V) M E) := Lib.hid (by
            by_cases h0 : e = 0
            · subst h0
              have hC := (hb4.out rfl).2.2
              have h := dst_take hst.out hkc (by omega) (by have h := hf5 rfl; rw [hB.out] at h; exact h)
              rw [hoj.out] at h
              exact h
            · rw [(hf4 h0).1]; exact dst_bad hst.out h0)
          have hb42 : Hid (E = 0 → A ≤ 29 ∧ D ≤ 29 ∧ C < 16) := Lib.hid fun h => by
            by_cases h0 : e = 0
            · exact hb4.out h0
            · rw [(hf4 h0).1] at h; exact absurd h h0
          clear hV hM hE hf4 hf5 hst hb4 hog hoj
          go_upto_region 14 with (fail)
          have HD0 := H.drew
          clear H
          refine Trk.wp_region_new (fun σ w1 => Own w0 w1 (slc 3 1 (.slice (some ⟨b8, 0, none⟩) 19 c8) 19 (nums X) :: slc 3 1 (.slice (some ⟨bA, 0, none⟩) 19 19) 19 (nums ordL) :: (if (σ 6).isSome then Sta g rg s M out most E else Sta g rg s n4 out most e) :: ps)) 8 [] [6] (by intro k hk; simp at hk; subst hk; exact ⟨by omega, by simp, fun o ho => by simp at ho; subst ho; rfl⟩) (by kernel_rfl) (by kernel_rfl) HD0 ?_
          simp only [List.take_succ_cons, List.take_zero, List.drop_succ_cons, List.drop_zero]
          repeat
            first
            | (refine Trk.calm_value (v := ?_) (by decide) (by decide) rfl (fun σ w1 hS => ?_) ?_
               rotate_left
               · have c4 := HR.out _ _ _ hS
                 first | (go_simp; rfl) | rfl
               simp only [Act.put, List.setIfInBounds_toArray, List.set_cons_zero, List.set_cons_succ])
            | (refine Trk.calm_skip (by decide) rfl ?_
               simp only [Act.put, List.setIfInBounds_toArray, List.set_cons_zero, List.set_cons_succ])
          refine kcalm_call (v := .int .i64 V) (by decide) (by decide) rfl (fun w1 => (by go_simp; first | exact ⟨rfl, rfl⟩ | rfl)) (fun σ w1 hS hn => ?_) ?_
          · rw [hn] at hS
            have hS2 : Own w0 w1 (slc 3 1 (.slice (some ⟨b8, 0, none⟩) 19 c8) 19 (nums X) :: slc 3 1 (.slice (some ⟨bA, 0, none⟩) 19 19) 19 (nums ordL) :: Sta g rg s n4 out most e :: ps) := hS
            refine (HT.out _ _ (hS2.front 2 rfl)).mono ?_
            rintro e5 w6 ⟨_, rfl, rfl, h5⟩
            refine ⟨rfl, ?_⟩
            have h6 := (h5.front 2 rfl).front 2 rfl
            simpa [Sig.upd] using h6
          simp only [Act.put, List.setIfInBounds_toArray, List.set_cons_zero, List.set_cons_succ]
          repeat
            first
            | (refine Trk.calm_value (v := ?_) (by decide) (by decide) rfl (fun σ w1 hS => ?_) ?_
               rotate_left
               · have c4 := HR.out _ _ _ hS
                 first | (go_simp; rfl) | rfl
               simp only [Act.put, List.setIfInBounds_toArray, List.set_cons_zero, List.set_cons_succ])
            | (refine Trk.calm_skip (by decide) rfl ?_
               simp only [Act.put, List.setIfInBounds_toArray, List.set_cons_zero, List.set_cons_succ])
          refine Trk.calm_nil ?_
          intro σ wd _ hσ HD
          have h8 := hσ 6 (by decide)
          rw [if_pos h8] at HD
          clear hσ h8 HD0 HT HR
          simp only [putNew, List.foldl_nil]
          go_wp2_with (refine wpList_store_slc rfl _ _ rfl rfl HD (.int .i64 V) rfl (by kernel_rfl) (by omega) rfl ?_; clear HD; intro w7 H)
          go_roundw
          case rel => exact ⟨k + 1, xs ++ [V], X.set oj V, M, E, by go_num, by omega, by rw [List.length_set]; exact hX.out, hf3, hb42, hst2, by rw [nums_set] at H; exact H⟩
          case measure => simp [intOf]; omega
        · have hend : Hid (e = 0 → X = unordF xs ∧ G = codesC B A D xs n4) := Lib.hid fun h0 => by
            subst h0
            have h := hb4.out rfl
            exact dst_end2 hst.out (by omega)
          have hbad : Hid (e ≠ 0 → ∀ v m, GotR G v m e) := Lib.hid hst.out.2
          have hrX : Hid (Reads w0 (slc 3 1 (.slice (some ⟨b8, 0, none⟩) 19 c8) 19 (nums X) :: slc 3 1 (.slice (some ⟨bA, 0, none⟩) 19 19) 19 (nums ordL) :: ps) 1 (.slice (some ⟨b8, 0, none⟩) 19 c8) 19 (nums X)) := Lib.hid fun w' h => h.rd
          have KM := Lib.hid (rmaytable_any H.rd (by omega))
          obtain ⟨x, hx⟩ : ∃ x, Hid (terrF X = x) := ⟨_, rfl⟩
          rw [hx.out] at KM
          obtain ⟨bd, hbd⟩ : ∃ b, Hid ((x != 0) = b) := ⟨_, rfl⟩
          obtain ⟨e6, he6⟩ : ∃ x, Hid (fltF bd 2 e = x) := ⟨_, rfl⟩
          have hP : Hid ((e6 ≠ 0 → ∀ v m, GotR G v m e6) ∧ (e6 = 0 → terrF X = 0 ∧ X = unordF xs ∧ G = codesC B A D xs n4)) := Lib.hid (by
            rw [← he6.out]
            by_cases h0 : e = 0
            · obtain ⟨h1, h2⟩ := hend.out h0
              rw [h0]
              by_cases hx0 : x = 0
              · have : bd = false := by rw [← hbd.out, hx0]; rfl
                rw [this, flt_no]
                exact ⟨fun h => absurd rfl h, fun _ => ⟨hx.out.trans hx0, h1, h2⟩⟩
              · have : bd = true := by rw [← hbd.out]; simp [hx0]
                rw [this, flt_yes]
                exact ⟨fun _ => (codes_end (n' := 0) (l := []) (e' := 0) h2).1 (by rw [← h1, hx.out]; exact hx0), fun h => by omega⟩
            · rw [flt_ne h0]
              exact ⟨fun _ => hbad.out h0, fun h => absurd h h0⟩)
          clear hend hbad hst hx
          have hwN : IntKind.i64.wrap (257 + (A : Int) + (1 + (D : Int))) = 257 + (A : Int) + (1 + (D : Int)) := IntWalk.i64_in _ ⟨by omega, by omega⟩
          have hexit : ¬ (k : Int) < 4 + (C : Int) ∨ (k : Int) < 4 + (C : Int) ∧ ¬ (k : Int) < 19 := by omega
          have hbd1 := hbd.out
          rcases hexit with hq | ⟨hq1, hq2⟩
          all_goals
            go_wp2_with fail
            refine KM.out.mono ?_
            rintro e0 w6 ⟨_, rfl, rfl, J⟩
            replace H := H.join J
            clear J KM
            have K1 := Lib.hid (rfault_any (g := g) (rg := rg) bd 2 (H.front 2 rfl))
            rw [he6.out] at K1
            go_wp2_with fail
            refine K1.out.mono ?_
            rintro e0 w7 ⟨_, rfl, H7⟩
            clear H K1 hbd hbd1
            have KL := Lib.hid (rlengths_any (257 + A + (1 + D)) hrX.out hX.out (by omega) (fun h => (hP.out.2 h).1) (by omega) hs hn4 H7)
            rw [show ((257 + A + (1 + D) : Nat) : Int) = 257 + (A : Int) + (1 + (D : Int)) by omega] at KL
            go_wp2_with fail
            refine KL.out.mono ?_
            rintro e0 w8 ⟨_, rfl, l, n5, e7, hn5, hl1, hl2, hl3, hg5, H8⟩
            have hbad : Hid (e7 ≠ 0 → ∀ v m, GotR G v m e7) := Lib.hid fun h7 => by
              by_cases h6 : e6 = 0
              · obtain ⟨h1, h2, h3⟩ := hP.out.2 h6
                have h4 := hg5 h6
                rw [hB.out, h2] at h4
                exact ((codes_end (n' := n5) (l := l) (e' := e7) h3).2 (by rw [← h2]; exact h1) h4).1 h7
              · rw [hl3 h6]; exact hP.out.1 h6
            have hgood : Hid (e7 = 0 → G = if l.getD 256 0 ≠ 0 ∧ terrF (l.take (257 + A)) = 0 ∧ terrF (l.drop (257 + A)) = 0 then .ok (l.take (257 + A), l.drop (257 + A)) n5 else .bad 2) := Lib.hid fun h7 => by
              by_cases h6 : e6 = 0
              · obtain ⟨h1, h2, h3⟩ := hP.out.2 h6
                have h4 := hg5 h6
                rw [hB.out, h2] at h4
                exact ((codes_end (n' := n5) (l := l) (e' := e7) h3).2 (by rw [← h2]; exact h1) h4).2 h7
              · rw [hl3 h6] at h7; exact absurd h7 h6
            clear hP hl3 hg5 KL H7 hrX
            obtain ⟨a, c, rfl, hc1, hc2⟩ := H8.rd.shape
            have ce := (H8.front 1 rfl).sta_e
            by_cases he7 : e7 = 0
            case neg =>
              have heb : (e7 != 0) = true := by simp [he7]
              replace he7 := Lib.hid he7
              replace hbad := Lib.hid (hbad.out he7.out)
              clear hl2 hgood
              go_wp2_with fail
              go_ret2
              exact ⟨_, rfl, show RTolP _ _ _ _ _ _ _ _ _ _ from ⟨_, _, ([], []), n5, e7, rfl, hn5, hbad.out _ _, fun _ => (((H8.drop).front 1 rfl).drop.front 1 rfl).drop, fun h => absurd h he7.out⟩⟩
            subst he7
            have hlN := Lib.hid (hl2 rfl)
            have hGl := Lib.hid (hgood.out rfl)
            clear hl1 hl2 hgood hbad
            obtain ⟨bl, c', hbl, -, -, -, -, hcl, -⟩ := H8.at (by rw [nums_length, hlN.out]; omega)
            cases hbl
            obtain ⟨y, hy⟩ : ∃ x, Hid (l.getD 256 0 = x) := ⟨_, rfl⟩
            have c256 : Hid (∀ w1 qs, Own w0 w1 (slc 3 1 (.slice (some ⟨bl, 0, none⟩) l.length c) l.length (nums l) :: qs) → w1.cell? ⟨bl, 256, none⟩ = some (.int .i64 y)) := Lib.hid fun w1 qs h => by
              obtain ⟨_, _, e9, h9⟩ := rd_at h.rd (Own.start w1) (i := 256) (by rw [hlN.out]; omega)
              cases e9
              rw [hy.out] at h9
              simpa using h9
            clear hcl
            rw [hy.out] at hGl
            obtain ⟨M, hM⟩ : ∃ M, Hid (l.length = M) := ⟨_, rfl⟩
            rw [hM.out] at H8 hlN hc1 c256 ⊢
            have hMb : 257 + A + 1 ≤ M := by have := hlN.out; omega
            have hMb2 : M ≤ 200000 := by have := hlN.out; omega
            have h256 : (256 : Int) < (M : Int) := by omega
            obtain ⟨l1, hl1⟩ : ∃ l1, Hid (l.take (257 + A) = l1) := ⟨_, rfl⟩
            obtain ⟨l2, hl2⟩ : ∃ l2, Hid (l.drop (257 + A) = l2) := ⟨_, rfl⟩
            have hl1n : Hid (l1.length = 257 + A) := Lib.hid (by rw [← hl1.out, List.length_take, hM.out]; omega)
            have hl2n : Hid (l2.length = M - (257 + A)) := Lib.hid (by rw [← hl2.out, List.length_drop, hM.out])
            rw [hl1.out, hl2.out] at hGl
            have hrd : ∀ (w1 : World) (qs : List Piece), Own w0 w1 (slc 3 1 (.slice (some ⟨bl, 0, none⟩) M c) M (nums l) :: qs) → Rd w1 1 (.slice (some ⟨bl, 0, none⟩) (257 + A) c) (257 + A) (nums l1) ∧ Rd w1 1 (.slice (some ⟨bl, 257 + A, none⟩) (M - (257 + A)) (c - (257 + A))) (M - (257 + A)) (nums l2) := fun w1 qs h => by
              have h1 := h.rd.take (k := 257 + A) (by omega)
              have h2 := h.rd.tail (k := 257 + A) (by omega)
              simp only [Nat.mul_one, Addr.add_lit, Nat.zero_add, nums, ← List.map_take, ← List.map_drop, hl1.out, hl2.out] at h1 h2
              exact ⟨h1, h2⟩
            replace hrd := Lib.hid hrd
            have hk1 : (257 : Int) + (A : Int) ≤ c := by omega
            have hk2 : (257 : Int) + (A : Int) ≤ M := by omega
            have hk3 : (0 : Int) ≤ 257 + (A : Int) := by omega
            have hk4 : ((257 : Int) + (A : Int)).toNat = 257 + A := by omega
            have hk5 : ¬ (257 + A = c) := by omega
            have hk6 : ¬ (c = 257 + A) := by omega
            have hk7 : M ≤ c := hc1
            go_upto_region 19 with (fail)
            go_cut [] (fun wx => ∃ e8 : Int, Hid (e8 = if y ≠ 0 ∧ terrF l1 = 0 ∧ terrF l2 = 0 then 0 else 2) ∧ Own w0 wx (Sta g rg s n5 out most e8 :: slc 3 1 (.slice (some ⟨bl, 0, none⟩) M c) M (nums l) :: ps))
            case first =>
              obtain ⟨t1, ht1⟩ : ∃ t1, Hid (terrF l1 = t1) := ⟨_, rfl⟩
              obtain ⟨t2, ht2⟩ : ∃ t2, Hid (terrF l2 = t2) := ⟨_, rfl⟩
              have KT1 := Lib.hid (fun w1 qs h => rmaytable_any (hrd.out w1 qs h).1 (by omega))
              have KT2 := Lib.hid (fun w1 qs h => rmaytable_any (hrd.out w1 qs h).2 (by omega))
              rw [ht1.out] at KT1
              rw [ht2.out] at KT2
              clear ce hrd
              have c0 := c256.out _ _ H8
              have hfin : ∀ (bd2 : Bool) (wz : World), (bd2 = true ↔ ¬ (y ≠ 0 ∧ t1 = 0 ∧ t2 = 0)) → Own w0 wz (Sta g rg s n5 out most (fltF bd2 2 0) :: slc 3 1 (.slice (some ⟨bl, 0, none⟩) M c) M (nums l) :: slc 3 1 (.slice (some ⟨b8, 0, none⟩) 19 c8) 19 (nums X) :: slc 3 1 (.slice (some ⟨bA, 0, none⟩) 19 19) 19 (nums ordL) :: ps) → ∃ e8 : Int, Hid (e8 = if y ≠ 0 ∧ terrF l1 = 0 ∧ terrF l2 = 0 then 0 else 2) ∧ Own w0 wz (Sta g rg s n5 out most e8 :: slc 3 1 (.slice (some ⟨bl, 0, none⟩) M c) M (nums l) :: ps) := fun bd2 wz h H => by
                refine ⟨fltF bd2 2 0, Lib.hid ?_, ((H.front 2 rfl).drop.front 2 rfl).drop⟩
                rw [ht1.out, ht2.out]
                cases bd2 with
                | true => rw [flt_yes, if_neg (h.1 rfl)]
                | false => rw [flt_no, if_pos (by have := h.2; exact Decidable.not_not.1 fun hh => by cases this hh)]
              replace hfin := Lib.hid hfin
              have KF := Lib.hid (fun (bd2 : Bool) (wz : World) (H : Own w0 wz (slc 3 1 (.slice (some ⟨bl, 0, none⟩) M c) M (nums l) :: Sta g rg s n5 out most 0 :: slc 3 1 (.slice (some ⟨b8, 0, none⟩) 19 c8) 19 (nums X) :: slc 3 1 (.slice (some ⟨bA, 0, none⟩) 19 19) 19 (nums ordL) :: ps)) => rfault_any (g := g) (rg := rg) bd2 2 (H.front 1 rfl))
              by_cases hy0 : y = 0
              · have hb1 : (y == 0) = true := by simp [hy0]
                have hq : Hid (true = true ↔ ¬ (y ≠ 0 ∧ t1 = 0 ∧ t2 = 0)) := Lib.hid (by simp [hy0])
                clear hy0
                go_wp2_with fail
                refine (KF.out true _ H8).mono ?_
                rintro e0 w9 ⟨_, rfl, H9⟩
                go_wp2
                go_meet
                exact hfin.out true _ (by simpa using hq.out) H9
              have hb1 : (y == 0) = false := by simp [hy0]
              go_wp2_with fail
              refine (KT1.out _ _ H8).mono ?_
              rintro e0 w9 ⟨_, rfl, rfl, J⟩
              replace H8 := H8.join J
              clear J c0
              by_cases ht10 : t1 = 0
              case neg =>
                have hb2 : (t1 != 0) = true := by simp [ht10]
                have hb2' : (t1 == 0) = false := by simp [ht10]
                have hq : Hid (¬ (y ≠ 0 ∧ t1 = 0 ∧ t2 = 0)) := Lib.hid (by simp [ht10])
                clear ht10 hy0
                go_wp2_with fail
                refine (KF.out true _ H8).mono ?_
                rintro e0 w10 ⟨_, rfl, H9⟩
                go_wp2
                go_meet
                exact hfin.out true _ ⟨fun _ => hq.out, fun _ => rfl⟩ H9
              have hb2 : (t1 != 0) = false := by simp [ht10]
              have hb2' : (t1 == 0) = true := by simp [ht10]
              go_wp2_with fail
              refine (KT2.out _ _ H8).mono ?_
              rintro e0 w10 ⟨_, rfl, rfl, J⟩
              replace H8 := H8.join J
              clear J
              by_cases ht20 : t2 = 0
              case neg =>
                have hb3 : (t2 != 0) = true := by simp [ht20]
                have hb3' : (t2 == 0) = false := by simp [ht20]
                have hq : Hid (¬ (y ≠ 0 ∧ t1 = 0 ∧ t2 = 0)) := Lib.hid (by simp [ht20])
                clear ht10 hy0 ht20
                go_wp2_with fail
                refine (KF.out true _ H8).mono ?_
                rintro e0 w11 ⟨_, rfl, H9⟩
                go_wp2
                go_meet
                exact hfin.out true _ ⟨fun _ => hq.out, fun _ => rfl⟩ H9
              have hb3 : (t2 != 0) = false := by simp [ht20]
              have hb3' : (t2 == 0) = true := by simp [ht20]
              have hq : Hid (y ≠ 0 ∧ t1 = 0 ∧ t2 = 0) := Lib.hid ⟨hy0, ht10, ht20⟩
              clear ht10 hy0 ht20
              go_wp2_with fail
              refine (KF.out false _ H8).mono ?_
              rintro e0 w11 ⟨_, rfl, H9⟩
              go_wp2
              go_meet
              exact hfin.out false _ ⟨fun h => (by cases h), fun h => absurd hq.out h⟩ H9
            case rest =>
            clear H8 ce
            obtain ⟨e8, he8, H⟩ := hcut
            go_upto_region 20 with (fail)
            refine wp_region_calm (fun w1 => Own w0 w1 (Sta g rg s n5 out most e8 :: slc 3 1 (.slice (some ⟨bl, 0, none⟩) M c) M (nums l) :: ps)) 7 (by kernel_rfl) (by kernel_rfl) H.drew ?_
            simp only [List.take_succ_cons, List.take_zero, List.drop_succ_cons, List.drop_zero]
            repeat
              first
              | (refine calm_value (v := ?_) (by decide) rfl (fun σ w1 hS => ?_) ?_
                 rotate_left
                 · skip
                   first | (go_simp; rfl) | rfl
                 simp only [Act.put, List.setIfInBounds_toArray, List.set_cons_zero, List.set_cons_succ])
              | (refine calm_skip (by decide) rfl ?_
                 simp only [Act.put, List.setIfInBounds_toArray, List.set_cons_zero, List.set_cons_succ])
            refine calm_nil ?_
            intro wd HD
            have hpost : Hid (RTolP w0 ps g rg s out most G (.tuple #[.slice (some ⟨bl, 0, none⟩) (257 + A) c, .slice (some ⟨bl, 257 + A, none⟩) (M - (257 + A)) (c - (257 + A))]) wd) := Lib.hid (by
              have e8c := he8.out
              have hGc := hGl.out
              by_cases hq : y ≠ 0 ∧ terrF l1 = 0 ∧ terrF l2 = 0
              · rw [if_pos hq] at e8c hGc
                subst e8c
                refine ⟨_, _, (l1, l2), n5, 0, rfl, hn5, by rw [hGc]; exact ⟨rfl, rfl, rfl⟩, fun h => absurd rfl h, fun _ => ⟨hq.2.1, hq.2.2, _, HD, fun w2 qs h => ?_⟩⟩
                have h1 := hrd.out w2 qs h
                simp only
                rw [hl1n.out, hl2n.out]
                exact h1
              · rw [if_neg hq] at e8c hGc
                subst e8c
                exact ⟨_, _, (l1, l2), n5, 2, rfl, hn5, by rw [hGc]; rfl, fun _ => (HD.front 1 rfl).drop, fun h => absurd h (by decide)⟩)
            clear H he8 hGl hrd c256
            go_wp2_with fail
            go_ret2
            exact ⟨_, rfl, hpost.out⟩
end Go.Proofs.Ytpbodonmiepilaa
/- flate: the document's Lens, Dists. -/
namespace Go.Proofs.Ytpbodonmiepilaa
open Go.RowKit

set_option maxRecDepth 100000 in
set_option maxHeartbeats 1600000 in
theorem rlens_any (w : World) : Calls Try.prog 66 #[] w (Ret fun r w' => ∃ v u, r = .tuple #[v, u] ∧ Own w w' [slc 3 1 v 29 (nums (fsts lensT)), slc 3 1 u 29 (nums (snds lensT))]) := by
  have H := ((Own.start w).nil 3 1).nil 3 1
  go_enter Try.func66, Try.ntmps66
  go_wp2_with fail
  go_loopw [2, 3, 4, 5] (fun s2 s3 s4 s5 wx => ∃ k : Nat, s5 = .int .i64 (257 + (k : Int)) ∧ k ≤ 28 ∧ s4 = .int .i64 (lenF k) ∧ Own w wx [slc 3 1 s2 k (nums (lenFs k)), slc 3 1 s3 k (nums (lenMs k))]) (fun _ _ _ s5 _ => 285 - (intOf s5).toNat)
  case atStart => exact ⟨0, by go_num, by omega, by go_num, H⟩
  case round =>
    clear H
    obtain ⟨k, rfl, hk, rfl, H⟩ := hrel
    obtain ⟨a2, c2, rfl, -⟩ := H.rd.shape
    obtain ⟨a3, c3, rfl, -⟩ := (H.front 1 rfl).rd.shape
    by_cases hlt : k < 28
    · have hI : 257 + (k : Int) < 285 := by omega
      obtain ⟨h1, h2, h3, h4, -⟩ := len_step ⟨k, hlt⟩
      simp only at h1 h2 h3 h4
      have hF := Lib.hid (lenFs_succ hlt)
      have hM := Lib.hid (lenMs_succ hlt)
      obtain ⟨x, hx⟩ : ∃ x, Hid (lenF k = x) := ⟨_, rfl⟩
      obtain ⟨y, hy⟩ : ∃ y, Hid (lenM k = y) := ⟨_, rfl⟩
      obtain ⟨z, hz⟩ : ∃ z, Hid (lenF (k + 1) = z) := ⟨_, rfl⟩
      rw [hz.out, hx.out, hy.out] at h1
      rw [hx.out] at h3 ⊢
      rw [hy.out] at h2 h4
      rw [hx.out] at hF
      rw [hy.out] at hM
      have HF := Lib.hid (show nums (lenFs k) ++ [.int .i64 (x : Int)] = nums (lenFs (k + 1)) by rw [hF.out]; simp [nums])
      have HM := Lib.hid (show nums (lenMs k) ++ [.int .i64 (y : Int)] = nums (lenMs (k + 1)) by rw [hM.out]; simp [nums])
      clear hF hM
      have hsw : IntKind.i64.wrap (257 + (k : Int) + 1) = 257 + (k : Int) + 1 := IntWalk.i64_in _ ⟨by omega, by omega⟩
      have hp : (2 : Int) ^ y = ((2 ^ y : Nat) : Int) := by rw [Int.natCast_pow]; rfl
      obtain ⟨p, hpp⟩ : ∃ p, 2 ^ y = p := ⟨_, rfl⟩
      rw [hpp] at hp h1
      have hy13 : y ≤ 13 := by omega
      have hpb : p ≤ 8192 := by rw [← hpp]; exact Nat.pow_le_pow_right (n := 2) (by omega) hy13
      have hpw : IntKind.i64.wrap (2 ^ y) = (p : Int) := by rw [hp]; exact IntWalk.i64_in _ ⟨by omega, by omega⟩
      have hxp : IntKind.i64.wrap ((x : Int) + (p : Int)) = (z : Int) := by rw [h1, Int.natCast_add]; exact IntWalk.i64_in _ ⟨by omega, by omega⟩
      have hy63 : (y : Int) < 64 := by omega
      clear hpp
      by_cases h8 : k < 8
      case' pos =>
        rw [if_pos h8] at h2
        subst h2
        rw [show ((0 : Nat) : Int) = 0 from rfl] at HM
        have h8I : ¬ 265 ≤ 257 + (k : Int) := by omega
      case' neg =>
        rw [if_neg h8] at h2
        have h8I : 265 ≤ 257 + (k : Int) := by omega
        have hsb : IntKind.i64.wrap (257 + (k : Int) - 261) = 257 + (k : Int) - 261 := IntWalk.i64_in _ ⟨by omega, by omega⟩
        have hdv : (257 + (k : Int) - 261) / 4 = (y : Int) := by omega
        have hdv2 : (257 + (k : Int) - 261).tdiv 4 = (y : Int) := by rw [Int.tdiv_eq_ediv_of_nonneg (by omega)]; exact hdv
        clear h2
      all_goals
        clear h1
        go_upto_region 11 with (first
          | (at_builtin; refine wpList_append_one rfl _ _ rfl Try.underlying22 intInfo rfl (by decide) rfl H (news := [.int .i64 (x : Int)]) rfl rfl rfl (by simp [Value.oneCell']) (by omega) (by omega) ?_; clear H; intro v' w' H; rw [HF.out] at H; obtain ⟨a4, c4, rfl, -⟩ := H.rd.shape)
          | (at_builtin; refine wpList_append_one rfl _ _ rfl Try.underlying22 intInfo rfl (by decide) rfl H.swap (news := [.int .i64 0]) rfl rfl rfl (by simp [Value.oneCell']) (by omega) (by omega) ?_; clear H; intro v' w' H; rw [HM.out] at H; replace H := H.swap; obtain ⟨a5, c5, rfl, -⟩ := (H.front 1 rfl).rd.shape)
          | (at_builtin; refine wpList_append_one rfl _ _ rfl Try.underlying22 intInfo rfl (by decide) rfl H.swap (news := [.int .i64 (y : Int)]) rfl rfl rfl (by simp [Value.oneCell']) (by omega) (by omega) ?_; clear H; intro v' w' H; rw [HM.out] at H; replace H := H.swap; obtain ⟨a5, c5, rfl, -⟩ := (H.front 1 rfl).rd.shape))
        clear HF HM
        go_wp2_with fail
        go_roundw
        case rel => exact ⟨k + 1, by go_num, by omega, by rw [hz.out], H⟩
        case measure => simp [intOf]; omega
    · obtain rfl : k = 28 := by omega
      have hI : ¬ 257 + ((28 : Nat) : Int) < 285 := by omega
      have HF := Lib.hid (show nums (lenFs 28) ++ [.int .i64 258] = nums (fsts lensT) from rfl)
      have HM := Lib.hid (show nums (lenMs 28) ++ [.int .i64 0] = nums (snds lensT) from rfl)
      go_wp2_with (first
        | (at_builtin; refine wpList_append_one rfl _ _ rfl Try.underlying22 intInfo rfl (by decide) rfl H (news := [.int .i64 258]) rfl rfl rfl (by simp [Value.oneCell']) (by omega) (by omega) ?_; clear H; intro v' w' H; rw [HF.out] at H; obtain ⟨a4, c4, rfl, -⟩ := H.rd.shape)
        | (at_builtin; refine wpList_append_one rfl _ _ rfl Try.underlying22 intInfo rfl (by decide) rfl H.swap (news := [.int .i64 0]) rfl rfl rfl (by simp [Value.oneCell']) (by omega) (by omega) ?_; clear H; intro v' w' H; rw [HM.out] at H; replace H := H.swap; obtain ⟨a5, c5, rfl, -⟩ := (H.front 1 rfl).rd.shape))
      go_ret2
      exact ⟨_, rfl, _, _, rfl, H⟩
set_option maxRecDepth 100000 in
set_option maxHeartbeats 1600000 in
theorem rdists_any (w : World) : Calls Try.prog 67 #[] w (Ret fun r w' => ∃ v u, r = .tuple #[v, u] ∧ Own w w' [slc 3 1 v 30 (nums (fsts distsT)), slc 3 1 u 30 (nums (snds distsT))]) := by
  have H := ((Own.start w).nil 3 1).nil 3 1
  go_enter Try.func67, Try.ntmps67
  go_wp2_with fail
  go_loopw [2, 3, 4, 5] (fun s2 s3 s4 s5 wx => ∃ k : Nat, s5 = .int .i64 ((k : Int)) ∧ k ≤ 30 ∧ s4 = .int .i64 (disF k) ∧ Own w wx [slc 3 1 s2 k (nums (disFs k)), slc 3 1 s3 k (nums (disMs k))]) (fun _ _ _ s5 _ => 30 - (intOf s5).toNat)
  case atStart => exact ⟨0, by go_num, by omega, by go_num, H⟩
  case round =>
    clear H
    obtain ⟨k, rfl, hk, rfl, H⟩ := hrel
    obtain ⟨a2, c2, rfl, -⟩ := H.rd.shape
    obtain ⟨a3, c3, rfl, -⟩ := (H.front 1 rfl).rd.shape
    by_cases hlt : k < 30
    · have hI : (k : Int) < 30 := by omega
      obtain ⟨h1, h2, h3, h4, -⟩ := dis_step ⟨k, hlt⟩
      simp only at h1 h2 h3 h4
      have hF := Lib.hid (disFs_succ hlt)
      have hM := Lib.hid (disMs_succ hlt)
      obtain ⟨x, hx⟩ : ∃ x, Hid (disF k = x) := ⟨_, rfl⟩
      obtain ⟨y, hy⟩ : ∃ y, Hid (disM k = y) := ⟨_, rfl⟩
      obtain ⟨z, hz⟩ : ∃ z, Hid (disF (k + 1) = z) := ⟨_, rfl⟩
      rw [hz.out, hx.out, hy.out] at h1
      rw [hx.out] at h3 ⊢
      rw [hy.out] at h2 h4
      rw [hx.out] at hF
      rw [hy.out] at hM
      have HF := Lib.hid (show nums (disFs k) ++ [.int .i64 (x : Int)] = nums (disFs (k + 1)) by rw [hF.out]; simp [nums])
      have HM := Lib.hid (show nums (disMs k) ++ [.int .i64 (y : Int)] = nums (disMs (k + 1)) by rw [hM.out]; simp [nums])
      clear hF hM
      have hsw : IntKind.i64.wrap ((k : Int) + 1) = (k : Int) + 1 := IntWalk.i64_in _ ⟨by omega, by omega⟩
      have hp : (2 : Int) ^ y = ((2 ^ y : Nat) : Int) := by rw [Int.natCast_pow]; rfl
      obtain ⟨p, hpp⟩ : ∃ p, 2 ^ y = p := ⟨_, rfl⟩
      rw [hpp] at hp h1
      have hy13 : y ≤ 13 := by omega
      have hpb : p ≤ 8192 := by rw [← hpp]; exact Nat.pow_le_pow_right (n := 2) (by omega) hy13
      have hpw : IntKind.i64.wrap (2 ^ y) = (p : Int) := by rw [hp]; exact IntWalk.i64_in _ ⟨by omega, by omega⟩
      have hxp : IntKind.i64.wrap ((x : Int) + (p : Int)) = (z : Int) := by rw [h1, Int.natCast_add]; exact IntWalk.i64_in _ ⟨by omega, by omega⟩
      have hy63 : (y : Int) < 64 := by omega
      clear hpp
      by_cases h8 : k < 4
      case' pos =>
        rw [if_pos h8] at h2
        subst h2
        rw [show ((0 : Nat) : Int) = 0 from rfl] at HM
        have h8I : ¬ 4 ≤ (k : Int) := by omega
      case' neg =>
        rw [if_neg h8] at h2
        have h8I : 4 ≤ (k : Int) := by omega
        have hsb : IntKind.i64.wrap ((k : Int) - 2) = (k : Int) - 2 := IntWalk.i64_in _ ⟨by omega, by omega⟩
        have hdv : ((k : Int) - 2) / 2 = (y : Int) := by omega
        have hdv2 : ((k : Int) - 2).tdiv 2 = (y : Int) := by rw [Int.tdiv_eq_ediv_of_nonneg (by omega)]; exact hdv
        clear h2
      all_goals
        clear h1
        go_upto_region 11 with (first
          | (at_builtin; refine wpList_append_one rfl _ _ rfl Try.underlying22 intInfo rfl (by decide) rfl H (news := [.int .i64 (x : Int)]) rfl rfl rfl (by simp [Value.oneCell']) (by omega) (by omega) ?_; clear H; intro v' w' H; rw [HF.out] at H; obtain ⟨a4, c4, rfl, -⟩ := H.rd.shape)
          | (at_builtin; refine wpList_append_one rfl _ _ rfl Try.underlying22 intInfo rfl (by decide) rfl H.swap (news := [.int .i64 0]) rfl rfl rfl (by simp [Value.oneCell']) (by omega) (by omega) ?_; clear H; intro v' w' H; rw [HM.out] at H; replace H := H.swap; obtain ⟨a5, c5, rfl, -⟩ := (H.front 1 rfl).rd.shape)
          | (at_builtin; refine wpList_append_one rfl _ _ rfl Try.underlying22 intInfo rfl (by decide) rfl H.swap (news := [.int .i64 (y : Int)]) rfl rfl rfl (by simp [Value.oneCell']) (by omega) (by omega) ?_; clear H; intro v' w' H; rw [HM.out] at H; replace H := H.swap; obtain ⟨a5, c5, rfl, -⟩ := (H.front 1 rfl).rd.shape))
        clear HF HM
        go_wp2_with fail
        go_roundw
        case rel => exact ⟨k + 1, by go_num, by omega, by rw [hz.out], H⟩
        case measure => simp [intOf]; omega
    · obtain rfl : k = 30 := by omega
      have hI : ¬ ((30 : Nat) : Int) < 30 := by omega
      go_wp2_with fail
      go_ret2
      exact ⟨_, rfl, _, _, rfl, H⟩
theorem len_tabs : (fsts lensT).length = 29 ∧ (snds lensT).length = 29 ∧ (fsts distsT).length = 30 ∧ (snds distsT).length = 30 := ⟨rfl, rfl, rfl, rfl⟩
end Go.Proofs.Ytpbodonmiepilaa
/- inflate, the document's: the walk of tokens. -/
namespace Go.Proofs.Ytpbodonmiepilaa
open Go.RowKit

theorem lenT_bd : ∀ i : Fin 29, (lenT0 (257 + i.1)).1 ≤ 258 ∧ 3 ≤ (lenT0 (257 + i.1)).1 ∧ (lenT0 (257 + i.1)).2 ≤ 5 := by decide
theorem distT_bd : ∀ i : Fin 30, (distT0 i.1).1 ≤ 24577 ∧ 1 ≤ (distT0 i.1).1 ∧ (distT0 i.1).2 ≤ 13 := by decide
theorem lenT_fst (i : Nat) : (fsts lensT).getD i 0 = ((lenT0 (257 + i)).1 : Int) := by rw [fsts_getD]; unfold lenT0; rw [Nat.add_sub_cancel_left]
theorem lenT_snd (i : Nat) : (snds lensT).getD i 0 = ((lenT0 (257 + i)).2 : Int) := by rw [snds_getD]; unfold lenT0; rw [Nat.add_sub_cancel_left]
theorem distT_fst (i : Nat) : (fsts distsT).getD i 0 = ((distT0 i).1 : Int) := fsts_getD _ _
theorem distT_snd (i : Nat) : (snds distsT).getD i 0 = ((distT0 i).2 : Int) := snds_getD _ _
theorem Own.sta_o {w0 w : World} {ps : List Piece} {g rg n : Nat} {s : ByteArray} {out : List Int} {most e : Int} (H : Own w0 w (Sta g rg s n out most e :: ps)) : sliceLen ((w.cell? ⟨g, 1, none⟩).getD undef) = out.length := by
  obtain ⟨a, c, b, _, _, H⟩ := H.sta
  rw [H.cells]; rfl
theorem tmeas_sta {w0 w : World} {ps : List Piece} {m g rg n : Nat} {s : ByteArray} {out : List Int} {most e : Int} (H : Own w0 w (Sta g rg s n out most e :: ps)) : tmeas m ((w.cell? ⟨g, 1, none⟩).getD undef) ((w.cell? ⟨g, 3, none⟩).getD undef) = if e = 0 then m + 1 - out.length else 0 := by
  unfold tmeas
  rw [H.sta_o, H.sta_e]
  rfl
theorem got_add {g : Got Int} {v e b : Int} {m : Nat} (h : GotR g v m e) : GotR (g.bind fun v m => .ok (b + v) m) (b + v) m e := by
  cases g with
  | ok v0 n0 => obtain ⟨rfl, rfl, rfl⟩ := h; exact ⟨rfl, rfl, rfl⟩
  | ran => exact h
  | bad e0 => exact h
def RTokP (w0 : World) (ps : List Piece) (g rg : Nat) (s : ByteArray) (most : Int) (last : Bool) (st0 : Inf) (w' : World) : Prop :=
  ∃ out' n' e', (out'.length : Int) ≤ most ∧ n' ≤ 8 * s.size ∧ TokEnd (textBits s) most last st0 out' n' e' ∧ Own w0 w' (Sta g rg s n' out' most e' :: ps)
set_option maxRecDepth 100000 in
set_option maxHeartbeats 6400000 in
theorem rtokens_any {w0 w : World} {ps : List Piece} {g rg n : Nat} {s : ByteArray} {lv dv : Value} {L D out : List Int} {most : Int} (last : Bool) (hL : Reads w0 ps 1 lv L.length (nums L)) (hD : Reads w0 ps 1 dv D.length (nums D)) (tL : terrF L = 0) (tD : terrF D = 0) (hm : 0 ≤ most ∧ most ≤ 1000000) (ho : (out.length : Int) ≤ most) (hs : s.size ≤ 1000000) (hn : n ≤ 8 * s.size) (H : Own w0 w (Sta g rg s n out most 0 :: ps)) :
    Calls Try.prog 44 #[.pointer (some ⟨g, 0, none⟩), lv, dv] w (Ret fun _ w' => RTokP w0 ps g rg s most last ⟨n, out, some (L, D), last⟩ w') := by
  obtain ⟨B, hB⟩ : ∃ B, Hid (textBits s = B) := ⟨_, rfl⟩
  obtain ⟨st0, hst0⟩ : ∃ st0, Hid ((⟨n, out, some (L, D), last⟩ : Inf) = st0) := ⟨_, rfl⟩
  have hst : Hid (TokSt B most (L, D) last st0 out n 0) := Lib.hid ⟨fun _ => by rw [hst0.out]; exact .refl _, fun h => absurd rfl h⟩
  obtain ⟨hm0, hm1⟩ := hm
  obtain ⟨mN, hmN⟩ : ∃ mN : Nat, most = mN := ⟨most.toNat, by omega⟩
  replace hmN := Lib.hid hmN
  rw [hst0.out]
  obtain ⟨la, lc, rfl, -⟩ := (hL w H.drop).shape
  obtain ⟨da, dc, rfl, -⟩ := (hD w H.drop).shape
  obtain ⟨hL1, hL2, -⟩ := table_ok tL
  obtain ⟨hD1, hD2, -⟩ := table_ok tD
  have hcL : Hid (cresF L = codesF L) := Lib.hid (by unfold cresF; rw [if_pos (terr_cerr tL)])
  have hcD : Hid (cresF D = codesF D) := Lib.hid (by unfold cresF; rw [if_pos (terr_cerr tD)])
  clear tL tD hst0
  go_enter Try.func44, Try.ntmps44
  go_wp2_with fail
  refine (rlens_any _).mono ?_
  rintro e0 w1 ⟨_, rfl, v1, u1, rfl, J⟩
  replace H : Own w0 w1 (slc 3 1 v1 29 (nums (fsts lensT)) :: slc 3 1 u1 29 (nums (snds lensT)) :: Sta g rg s n out most 0 :: ps) := H.join J
  clear J
  obtain ⟨b1, o1, c1, rfl, hc1, hc1'⟩ := H.rd.some (by rw [nums_length]; decide)
  obtain ⟨b2, o2, c2, rfl, hc2, hc2'⟩ := (H.front 1 rfl).rd.some (by rw [nums_length]; decide)
  go_wp2_with fail
  refine (rdists_any _).mono ?_
  rintro e0 w2 ⟨_, rfl, v3, u3, rfl, J⟩
  replace H : Own w0 w2 (slc 3 1 v3 30 (nums (fsts distsT)) :: slc 3 1 u3 30 (nums (snds distsT)) :: slc 3 1 (.slice (some ⟨b1, o1, none⟩) 29 c1) 29 (nums (fsts lensT)) :: slc 3 1 (.slice (some ⟨b2, o2, none⟩) 29 c2) 29 (nums (snds lensT)) :: Sta g rg s n out most 0 :: ps) := H.join J
  clear J
  obtain ⟨b3, o3, c3, rfl, hc3, hc3'⟩ := H.rd.some (by rw [nums_length]; decide)
  obtain ⟨b4, o4, c4, rfl, hc4, hc4'⟩ := (H.front 1 rfl).rd.some (by rw [nums_length]; decide)
  have KL := Lib.hid (fun wz (h : Own w0 wz ps) => rtable_any (hL wz h) (by omega))
  have KD := Lib.hid (fun wz (h : Own w0 wz ps) => rtable_any (hD wz h) (by omega))
  rw [hcL.out, codesF_length] at KL
  rw [hcD.out, codesF_length] at KD
  go_wp2_with fail
  refine (KL.out _ H.drop.drop.drop.drop.drop).mono ?_
  rintro e0 w3 ⟨_, rfl, u5, rfl, J⟩
  replace H := H.join J
  clear J
  obtain ⟨a5, c5, rfl, -⟩ := H.rd.shape
  go_wp2_with fail
  refine (KD.out _ H.drop.drop.drop.drop.drop.drop).mono ?_
  rintro e0 w4 ⟨_, rfl, u6, rfl, J⟩
  replace H := H.join J
  clear J KL KD
  obtain ⟨a6, c6, rfl, -⟩ := H.rd.shape
  have H9 := H.alloc2 (.cells #[.slice none 0 0, .slice none 0 0] 109) (.cells #[.slice none 0 0, .slice none 0 0] 109)
  clear H
  go_upto_block 0 with (first
    | (refine wpList_store_agg (vs := [.slice la L.length lc, .slice a5 L.length c5]) rfl _ _ rfl rfl (H9.front 1 rfl) rfl (by kernel_rfl) (by simp) (by simp [Value.oneCell']) rfl ?_; clear H9; intro w8 H8)
    | (refine wpList_store_agg (vs := [.slice da D.length dc, .slice a6 D.length c6]) rfl _ _ rfl rfl (H8.front 1 rfl) rfl (by kernel_rfl) (by simp) (by simp [Value.oneCell']) rfl ?_; clear H8; intro w9 H))
  obtain ⟨t11, ht11⟩ : ∃ k, w4.heap.size + 1 = k := ⟨_, rfl⟩
  rw [ht11] at H ⊢
  generalize w4.heap.size = t10 at *
  clear ht11
  obtain ⟨PS, HP, FTL, FTD, FL, FD, FX, FE⟩ : ∃ PS : List Piece, Own w0 w9 (Sta g rg s n out most 0 :: PS) ∧ Hid (TabR w0 PS (.slice la L.length lc) (.slice a5 L.length c5) L.length L) ∧ Hid (TabR w0 PS (.slice da D.length dc) (.slice a6 D.length c6) D.length D) ∧
      Hid (∀ w' X, Own w0 w' (X :: PS) → ∀ i, i < 29 → w'.cell? ⟨b1, o1 + i, none⟩ = some (.int .i64 (lenT0 (257 + i)).1) ∧ w'.cell? ⟨b2, o2 + i, none⟩ = some (.int .i64 (lenT0 (257 + i)).2)) ∧
      Hid (∀ w' X, Own w0 w' (X :: PS) → ∀ i, i < 30 → w'.cell? ⟨b3, o3 + i, none⟩ = some (.int .i64 (distT0 i).1) ∧ w'.cell? ⟨b4, o4 + i, none⟩ = some (.int .i64 (distT0 i).2)) ∧
      Hid (∀ w' X, Own w0 w' (X :: PS) → (∀ i, w'.cell? ⟨t10, i, none⟩ = #[.slice la L.length lc, .slice a5 L.length c5][i]?) ∧ (∀ i, w'.cell? ⟨t11, i, none⟩ = #[.slice da D.length dc, .slice a6 D.length c6][i]?)) ∧
      Hid (∀ w' X, Own w0 w' (X :: PS) → Own w0 w' (X :: ps)) := by
    refine ⟨_, H.front 8 rfl, Lib.hid fun w' h => ?_, Lib.hid fun w' h => ?_, Lib.hid fun w' X h i hi => ?_, Lib.hid fun w' X h i hi => ?_, Lib.hid fun w' X h => ?_, Lib.hid fun w' X h => ?_⟩
    · exact ⟨hL w' h.drop.drop.drop.drop.drop.drop.drop.drop, (h.front 3 rfl).rd⟩
    · exact ⟨hD w' h.drop.drop.drop.drop.drop.drop.drop.drop, (h.front 2 rfl).rd⟩
    · obtain ⟨_, _, e1, h1⟩ := rd_at (h.front 7 rfl).rd (Own.start w') hi
      obtain ⟨_, _, e2, h2⟩ := rd_at (h.front 8 rfl).rd (Own.start w') hi
      cases e1; cases e2
      rw [lenT_fst] at h1
      rw [lenT_snd] at h2
      exact ⟨h1, h2⟩
    · obtain ⟨_, _, e1, h1⟩ := rd_at (h.front 5 rfl).rd (Own.start w') hi
      obtain ⟨_, _, e2, h2⟩ := rd_at (h.front 6 rfl).rd (Own.start w') hi
      cases e1; cases e2
      rw [distT_fst] at h1
      rw [distT_snd] at h2
      exact ⟨h1, h2⟩
    · exact ⟨(h.front 2 rfl).cells, (h.front 1 rfl).cells⟩
    · exact (h.front 1 rfl).drop.front 1 rfl |>.drop |>.front 1 rfl |>.drop |>.front 1 rfl |>.drop |>.front 1 rfl |>.drop |>.front 1 rfl |>.drop |>.front 1 rfl |>.drop |>.front 1 rfl |>.drop
  replace H := HP
  clear HP hL hD
  simp only [Act.put]
  go_wp2_with fail
  go_loopw [12] (fun _ wx => ∃ (out1 : List Int) (n1 : Nat) (e1 : Int), (out1.length : Int) ≤ most ∧ n1 ≤ 8 * s.size ∧ Hid (TokSt B most (L, D) last st0 out1 n1 e1) ∧ Own w0 wx (Sta g rg s n1 out1 most e1 :: PS)) (fun _ wx => tmeas mN ((wx.cell? ⟨g, 1, none⟩).getD undef) ((wx.cell? ⟨g, 3, none⟩).getD undef))
  case atStart => exact ⟨out, n, 0, ho, hn, hst, H⟩
  case round =>
    clear H hst ho hn
    obtain ⟨out1, n1, e1, ho, hn1, hst, H⟩ := hrel
    clear out n
    obtain ⟨M, hM⟩ : ∃ M, Hid (out1.length = M) := ⟨_, rfl⟩
    have hmz : Hid (tmeas mN ((wr.cell? ⟨g, 1, none⟩).getD undef) ((wr.cell? ⟨g, 3, none⟩).getD undef) = if e1 = 0 then mN + 1 - M else 0) := Lib.hid (by rw [tmeas_sta H, hM.out])
    have ce := H.sta_e
    by_cases he : e1 = 0
    case neg =>
      have heb : (e1 == 0) = false := by simp [he]
      have hfin : Hid (TokEnd B most last st0 out1 n1 e1) := Lib.hid ⟨fun h => absurd h he, fun h => hst.out.2 h⟩
      clear he hst hmz
      go_wp2
      go_end0
      exact ⟨_, rfl, show RTokP _ _ _ _ _ _ _ _ _ from ⟨out1, n1, e1, ho, hn1, by rw [hB.out]; exact hfin.out, FE.out _ _ H⟩⟩
    subst he
    replace hmz := Lib.hid (hmz.out.trans (if_pos rfl))
    rw [hM.out] at ho
    have HS := Lib.hid (rsym_any (g := g) (rg := rg) (fun _ => ⟨FTL.out, hL2, rfl, by omega⟩) hs hn1 H)
    obtain ⟨x0, x1⟩ := FX.out _ _ H
    go_wp2_with fail
    refine HS.out.mono ?_
    rintro e0 w1 ⟨_, rfl, v, n2, e2, rfl, hv0, hv1, hn2, -, hg, H1⟩
    have hts := Lib.hid (tok_sym (most := most) (D := D) (out := out1) (hg rfl))
    rw [hB.out] at hts
    clear HS H hg ce x0 x1
    have ce := H1.sta_e
    by_cases he2 : e2 = 0
    case neg =>
      have heb : (e2 != 0) = true := by simp [he2]
      have heb2 : (e2 == 0) = false := by simp [he2]
      have hfin : Hid (TokEnd B most last st0 out1 n2 e2) := Lib.hid ⟨fun h => absurd h he2, fun h => (tok_round hst.out (hts.out.1 h)).1 h⟩
      clear he2 hst hmz hts
      go_wp2
      refine bodyPost_ret (results_none rfl _ _ _) rfl ?_
      exact ⟨_, rfl, show RTokP _ _ _ _ _ _ _ _ _ from ⟨out1, n2, e2, by rw [hM.out]; exact ho, hn2, by rw [hB.out]; exact hfin.out, FE.out _ _ H1⟩⟩
    subst he2
    by_cases hv : v = 256
    · subst hv
      have hfin : Hid (TokEnd B most last st0 out1 n2 0) := Lib.hid (((tok_round hst.out (hts.out.2.1 rfl rfl)).2 rfl).2 rfl)
      clear hst hmz hts
      go_wp2
      refine bodyPost_ret (results_none rfl _ _ _) rfl ?_
      exact ⟨_, rfl, show RTokP _ _ _ _ _ _ _ _ _ from ⟨out1, n2, 0, by rw [hM.out]; exact ho, hn2, by rw [hB.out]; exact hfin.out, FE.out _ _ H1⟩⟩
    have hvb : (v == 256) = false := by simp [hv]
    by_cases hv2 : v < 256
    · have hrt := Lib.hid (hts.out.2.2.1 rfl hv2)
      clear hts hv
      rw [hM.out] at hrt
      have hu8 : IntKind.u8.wrap v = v := IntWalk.u8_in _ ⟨by omega, by omega⟩
      obtain ⟨a, c, b, h1, h2, HI⟩ := H1.sta
      rw [hM.out] at HI h1
      have hw : IntKind.i64.wrap (most - (M : Int)) = most - M := IntWalk.i64_in _ ⟨by omega, by omega⟩
      obtain ⟨lt, hlt⟩ : ∃ lt, Hid (decide (most - (M : Int) < 1) = lt) := ⟨_, rfl⟩
      go_upto_region 7 with (fail)
      refine wp_region_calm (fun w1 => Own w0 w1 (blk g (.cells #[.pointer (some ⟨rg, 0, none⟩), .slice a M c, .int .i64 most, .int .i64 0, .bool b] 67) :: slc 5 1 (.slice a M c) M (bcells out1) :: RRdr rg s n2 :: PS)) 12 (by kernel_rfl) (by kernel_rfl) HI.drew ?_
      simp only [List.take_succ_cons, List.take_zero, List.drop_succ_cons, List.drop_zero]
      repeat
        first
        | (refine calm_value (v := ?_) (by decide) rfl (fun σ w1 hS => ?_) ?_
           rotate_left
           · have c0 := hS.cells
             first | (go_simp; rfl) | rfl
           simp only [Act.put, List.setIfInBounds_toArray, List.set_cons_zero, List.set_cons_succ])
        | (refine calm_skip (by decide) rfl ?_
           simp only [Act.put, List.setIfInBounds_toArray, List.set_cons_zero, List.set_cons_succ])
      refine calm_nil ?_
      intro wd HD
      rw [hlt.out]
      clear HI H1 ce
      have HQ := Lib.hid (rfault_any (g := g) (rg := rg) lt 12 (HD.unsta hM.out.symm))
      go_wp2_with fail
      refine HQ.out.mono ?_
      rintro e0 w3 ⟨_, rfl, H3⟩
      clear HD HQ
      cases lt with
      | true =>
        rw [flt_yes] at H3
        have ce := H3.sta_e
        have hfin := Lib.hid ((tok_round hst.out (hrt.out.1 (of_decide_eq_true hlt.out))).1 (by decide))
        clear hrt hst hlt
        go_wp2_with fail
        go_roundw
        case rel => exact ⟨out1, n2, 12, by rw [hM.out]; exact ho, hn2, Lib.hid ⟨fun h => absurd h (by decide), fun _ => hfin.out⟩, H3⟩
        case measure => rw [hmz.out, tmeas_sta H3, if_neg (by decide)]; have := hmN.out; omega
      | false =>
        rw [flt_no] at H3
        have hlt2 := of_decide_eq_false hlt.out
        have hfin := Lib.hid (((tok_round hst.out (hrt.out.2 (by omega))).2 rfl).1 _ rfl)
        clear hrt hst hlt
        obtain ⟨a, c, b, h1, h2, H⟩ := H3.sta
        rw [hM.out] at H
        have c0 := H.cells
        clear H3
        have H4 := H.front 1 rfl
        clear H
        go_wp2_with (first
          | (at_builtin; refine wpList_append_one rfl _ _ rfl Try.underlying54 u8Info rfl (by decide) rfl H4 (news := [.int .u8 v]) rfl rfl rfl (by simp [Value.oneCell']) (by omega) (by omega) ?_; clear H4 c0; intro v' w' H; obtain ⟨a', c', rfl, h1', h2'⟩ := H.rd.shape)
          | (refine wpList_store_slice rfl _ _ rfl rfl (H.front 1 rfl) rfl (by kernel_rfl) (by simp) ?_; clear H; intro w2 H))
        have hlen : M + 1 = (out1 ++ [v]).length := by rw [List.length_append, hM.out]; rfl
        have H5 : Own w0 w2 (Sta g rg s n2 (out1 ++ [v]) most 0 :: PS) := Own.unsta (by rw [← bcells_snoc]; exact H) hlen
        clear H
        simp only [Act.put]
        go_roundw
        case rel => exact ⟨out1 ++ [v], n2, 0, by omega, hn2, hfin, H5⟩
        case measure => rw [hmz.out, tmeas_sta H5, if_pos rfl, ← hlen]; have := hmN.out; omega
    · have hv3 : 256 < v := by omega
      have hG := Lib.hid (hts.out.2.2.2 rfl hv3)
      obtain ⟨G, hGG⟩ : ∃ G, Hid (tokG B most L D out1 n1 = G) := ⟨_, rfl⟩
      rw [hGG.out] at hG
      clear hts
      obtain ⟨c, rfl⟩ : ∃ c : Nat, v = c := ⟨v.toNat, by omega⟩
      by_cases hc285 : 285 < c
      · have hcI : (285 : Int) < (c : Int) := by omega
        have hfin : Hid (Faults B most st0 2) := Lib.hid ((tok_round (r := none) (m := 0) hst.out (by rw [hGG.out, hG.out]; unfold lenG; rw [if_pos (by omega)]; exact (rfl : GotR (Got.bad 2) none 0 2))).1 (by decide))
        obtain ⟨a, cc, b, h1, h2, H⟩ := H1.sta
        have c0 := H.cells
        clear H1 ce hst hmz hG hGG
        go_wp2_with (refine wpList_store_int rfl _ _ rfl rfl H rfl (by kernel_rfl) (by simp) ?_; clear H c0; intro w3 H)
        refine bodyPost_ret (results_none rfl _ _ _) rfl ?_
        exact ⟨_, rfl, show RTokP _ _ _ _ _ _ _ _ _ from ⟨out1, n2, 2, by rw [hM.out]; exact ho, hn2, by rw [hB.out]; exact ⟨fun h => absurd h (by decide), fun _ => hfin.out⟩, FE.out _ _ (H.unsta rfl)⟩⟩
      · obtain ⟨i, hci⟩ : ∃ i, Hid (c = 257 + i) := ⟨c - 257, Lib.hid (by omega)⟩
        have hi29 : i < 29 := by have := hci.out; omega
        have hcI : ¬ (285 : Int) < (c : Int) := by omega
        have hwc : IntKind.i64.wrap ((c : Int) - 257) = (i : Int) := by have := hci.out; rw [show (c : Int) - 257 = i by omega]; exact IntWalk.i64_in _ ⟨by omega, by omega⟩
        have hiI : (i : Int) < 29 := by omega
        obtain ⟨hlb1, hlb2, hlb3⟩ := lenT_bd ⟨i, hi29⟩
        have FLi := Lib.hid (fun w' X h => FL.out w' X h i hi29)
        simp only at hlb1 hlb2 hlb3
        obtain ⟨q1, q2, hq⟩ : ∃ q1 q2, Hid (lenT0 (257 + i) = (q1, q2)) := ⟨_, _, rfl⟩
        rw [hq.out] at hlb1 hlb2 hlb3 FLi
        simp only at hlb1 hlb2 hlb3 FLi
        obtain ⟨hf1, hf2, hf3, -, hf5⟩ := rk_facts (s := s) (n := n2) (k := q2) (e := 0) (by omega) hn2
        have HT := Lib.hid (fun wz (h : Own w0 wz (Sta g rg s n2 out1 most 0 :: PS)) => rtake_kn q2 (by omega) h hs hn2)
        obtain ⟨V, hV⟩ : ∃ V, Hid (rkV s n2 q2 0 = V) := ⟨_, rfl⟩
        obtain ⟨n3, hn3e⟩ : ∃ M, Hid (rkN s n2 q2 0 = M) := ⟨_, rfl⟩
        obtain ⟨e3, he3e⟩ : ∃ E, Hid (rkE s n2 q2 0 = E) := ⟨_, rfl⟩
        rw [hV.out, hn3e.out, he3e.out] at HT hf5
        rw [hV.out] at hf1 hf2
        rw [hn3e.out] at hf3
        have hg3 : Hid (GotR (lenG B c n2) (q1 + V) n3 e3) := Lib.hid (by
          unfold lenG
          rw [if_neg hcI, Int.toNat_natCast, hci.out, hq.out]
          have h := hf5 rfl
          rw [hB.out] at h
          exact got_add h)
        have hwV : IntKind.i64.wrap ((q1 : Int) + V) = q1 + V := IntWalk.i64_in _ ⟨by omega, by omega⟩
        clear hV hn3e he3e hf5 hc285 hq
        go_upto_region 12 with (fail)
        have HD0 := H1.drew
        clear H1 ce
        refine Trk.wp_region_new (fun σ w1 => Own w0 w1 ((if (σ 11).isSome then Sta g rg s n3 out1 most e3 else Sta g rg s n2 out1 most 0) :: PS)) 13 [] [11] (by intro k hk; simp at hk; subst hk; exact ⟨by omega, by simp, fun o ho => by simp at ho; subst ho; rfl⟩) (by kernel_rfl) (by kernel_rfl) HD0 ?_
        simp only [List.take_succ_cons, List.take_zero, List.drop_succ_cons, List.drop_zero]
        repeat
          first
          | (refine Trk.calm_value (v := ?_) (by decide) (by decide) rfl (fun σ w1 hS => ?_) ?_
             rotate_left
             · obtain ⟨c4, c5⟩ := FLi.out _ _ hS
               first | (go_simp; rfl) | rfl
             simp only [Act.put, List.setIfInBounds_toArray, List.set_cons_zero, List.set_cons_succ])
          | (refine Trk.calm_skip (by decide) rfl ?_
             simp only [Act.put, List.setIfInBounds_toArray, List.set_cons_zero, List.set_cons_succ])
        refine kcalm_call (v := .int .i64 V) (by decide) (by decide) rfl (fun w1 => (by go_simp; first | exact ⟨rfl, rfl⟩ | rfl)) (fun σ w1 hS hn => ?_) ?_
        · rw [hn] at hS
          refine (HT.out _ hS).mono ?_
          rintro e5 w6 ⟨_, rfl, rfl, h5⟩
          refine ⟨rfl, ?_⟩
          simpa [Sig.upd] using h5
        simp only [Act.put, List.setIfInBounds_toArray, List.set_cons_zero, List.set_cons_succ]
        repeat
          first
          | (refine Trk.calm_value (v := ?_) (by decide) (by decide) rfl (fun σ w1 hS => ?_) ?_
             rotate_left
             · skip
               first | (go_simp; rfl) | rfl
             simp only [Act.put, List.setIfInBounds_toArray, List.set_cons_zero, List.set_cons_succ])
          | (refine Trk.calm_skip (by decide) rfl ?_
             simp only [Act.put, List.setIfInBounds_toArray, List.set_cons_zero, List.set_cons_succ])
        refine Trk.calm_nil ?_
        intro σ wd _ hσ HD
        have h8 := hσ 11 (by decide)
        rw [if_pos h8] at HD
        clear hσ h8 HD0 HT FLi
        simp only [putNew, List.foldl_nil]
        obtain ⟨len, hlen⟩ : ∃ len : Int, (q1 : Int) + V = len := ⟨_, rfl⟩
        have hl0 : 3 ≤ len := by omega
        have hl1 : len ≤ 70000 := by omega
        rw [hlen] at hg3
        have HS := Lib.hid (rsym_any (g := g) (rg := rg) (fun _ => ⟨FTD.out, hD2, rfl, by omega⟩) hs hf3 HD)
        obtain ⟨x0, x1⟩ := FX.out _ _ HD
        go_wp2_with fail
        refine HS.out.mono ?_
        rintro e0 w3 ⟨_, rfl, k, n4, e4, rfl, hk0, hk1, hn4, he4, hg4, H3⟩
        rw [hB.out] at hg4
        replace hg4 := Lib.hid hg4
        replace he4 := Lib.hid fun h => (he4 h).1
        obtain ⟨k, rfl⟩ : ∃ j : Nat, k = j := ⟨k.toNat, by omega⟩
        clear HS HD x0 x1
        obtain ⟨bk, hbk⟩ : ∃ b, Hid (decide (29 < (k : Int)) = b) := ⟨_, rfl⟩
        have HQ := Lib.hid (rfault_any (g := g) (rg := rg) bk 2 H3)
        obtain ⟨e5, he5⟩ : ∃ x, Hid (fltF bk 2 e4 = x) := ⟨_, rfl⟩
        rw [he5.out] at HQ
        have hbk1 := hbk.out
        go_wp2_with fail
        refine HQ.out.mono ?_
        rintro e0 w4 ⟨_, rfl, H4⟩
        clear HQ H3 hbk1
        have ce := H4.sta_e
        by_cases he50 : e5 = 0
        case neg =>
          have heb : (e5 != 0) = true := by simp [he50]
          have heb2 : (e5 == 0) = false := by simp [he50]
          have hfin : Hid (Faults B most st0 e5) := Lib.hid (by
            have h1 : e4 ≠ 0 → e5 = e4 := fun h => by rw [← he5.out, flt_ne h]
            have h2 : e4 = 0 → GotR (distG B k n4) 0 0 e5 := fun h => by
              cases bk with
              | true =>
                rw [← he5.out, h, flt_yes]
                unfold distG
                rw [if_pos (of_decide_eq_true hbk.out)]
                rfl
              | false => rw [← he5.out, h, flt_no] at he50; exact absurd rfl he50
            exact (tok_round hst.out (by rw [hGG.out]; exact (tok_far hG.out hg3.out he4.out hg4.out h1 h2).1 he50)).1 he50)
          clear hst hmz hG hGG hg3 hg4 he4 hbk he5
          replace he50 := Lib.hid he50
          go_wp2
          refine bodyPost_ret (results_none rfl _ _ _) rfl ?_
          exact ⟨_, rfl, show RTokP _ _ _ _ _ _ _ _ _ from ⟨out1, n4, e5, by rw [hM.out]; exact ho, hn4, by rw [hB.out]; exact ⟨fun h => absurd h he50.out, fun _ => hfin.out⟩, FE.out _ _ H4⟩⟩
        subst he50
        obtain ⟨rfl, hk30⟩ : e4 = 0 ∧ k < 30 := by
          have h := he5.out
          cases bk with
          | true =>
            unfold fltF at h
            by_cases h4 : e4 = 0
            · rw [if_pos ⟨rfl, h4⟩] at h; cases h
            · rw [if_neg (fun hh => h4 hh.2)] at h; exact absurd h h4
          | false =>
            rw [flt_no] at h
            have := of_decide_eq_false hbk.out
            exact ⟨h, by omega⟩
        clear he5 hbk
        have hkI : (k : Int) < 30 := by omega
        obtain ⟨hdb1, hdb2, hdb3⟩ := distT_bd ⟨k, hk30⟩
        have FDk := Lib.hid (fun w' X h => FD.out w' X h k hk30)
        simp only at hdb1 hdb2 hdb3
        obtain ⟨q3, q4, hq⟩ : ∃ q3 q4, Hid (distT0 k = (q3, q4)) := ⟨_, _, rfl⟩
        rw [hq.out] at hdb1 hdb2 hdb3 FDk
        simp only at hdb1 hdb2 hdb3 FDk
        obtain ⟨hf1', hf2', hf3', -, hf5⟩ := rk_facts (s := s) (n := n4) (k := q4) (e := 0) (by omega) hn4
        have HT := Lib.hid (fun wz (h : Own w0 wz (Sta g rg s n4 out1 most 0 :: PS)) => rtake_kn q4 (by omega) h hs hn4)
        obtain ⟨U, hU⟩ : ∃ V, Hid (rkV s n4 q4 0 = V) := ⟨_, rfl⟩
        obtain ⟨n5, hn5e⟩ : ∃ M, Hid (rkN s n4 q4 0 = M) := ⟨_, rfl⟩
        obtain ⟨e5, he5e⟩ : ∃ E, Hid (rkE s n4 q4 0 = E) := ⟨_, rfl⟩
        rw [hU.out, hn5e.out, he5e.out] at HT hf5
        rw [hU.out] at hf1' hf2'
        rw [hn5e.out] at hf3'
        have hg5 : Hid (GotR (distG B k n4) (q3 + U) n5 e5) := Lib.hid (by
          unfold distG
          rw [if_neg (by omega), Int.toNat_natCast, hq.out]
          have h := hf5 rfl
          rw [hB.out] at h
          exact got_add h)
        have hwU : IntKind.i64.wrap ((q3 : Int) + U) = q3 + U := IntWalk.i64_in _ ⟨by omega, by omega⟩
        clear hU hn5e he5e hf5 hq
        go_upto_region 16 with (fail)
        have HD0 := H4.drew
        clear H4 ce
        refine Trk.wp_region_new (fun σ w1 => Own w0 w1 ((if (σ 9).isSome then Sta g rg s n5 out1 most e5 else Sta g rg s n4 out1 most 0) :: PS)) 11 [] [9] (by intro k hk; simp at hk; subst hk; exact ⟨by omega, by simp, fun o ho => by simp at ho; subst ho; rfl⟩) (by kernel_rfl) (by kernel_rfl) HD0 ?_
        simp only [List.take_succ_cons, List.take_zero, List.drop_succ_cons, List.drop_zero]
        repeat
          first
          | (refine Trk.calm_value (v := ?_) (by decide) (by decide) rfl (fun σ w1 hS => ?_) ?_
             rotate_left
             · obtain ⟨c4, c5⟩ := FDk.out _ _ hS
               first | (go_simp; rfl) | rfl
             simp only [Act.put, List.setIfInBounds_toArray, List.set_cons_zero, List.set_cons_succ])
          | (refine Trk.calm_skip (by decide) rfl ?_
             simp only [Act.put, List.setIfInBounds_toArray, List.set_cons_zero, List.set_cons_succ])
        refine kcalm_call (v := .int .i64 U) (by decide) (by decide) rfl (fun w1 => (by go_simp; first | exact ⟨rfl, rfl⟩ | rfl)) (fun σ w1 hS hn => ?_) ?_
        · rw [hn] at hS
          refine (HT.out _ hS).mono ?_
          rintro e6 w6 ⟨_, rfl, rfl, h5⟩
          refine ⟨rfl, ?_⟩
          simpa [Sig.upd] using h5
        simp only [Act.put, List.setIfInBounds_toArray, List.set_cons_zero, List.set_cons_succ]
        repeat
          first
          | (refine Trk.calm_value (v := ?_) (by decide) (by decide) rfl (fun σ w1 hS => ?_) ?_
             rotate_left
             · skip
               first | (go_simp; rfl) | rfl
             simp only [Act.put, List.setIfInBounds_toArray, List.set_cons_zero, List.set_cons_succ])
          | (refine Trk.calm_skip (by decide) rfl ?_
             simp only [Act.put, List.setIfInBounds_toArray, List.set_cons_zero, List.set_cons_succ])
        refine Trk.calm_nil ?_
        intro σ wd2 _ hσ HD
        have h8 := hσ 9 (by decide)
        rw [if_pos h8] at HD
        clear hσ h8 HD0 HT FDk
        simp only [putNew, List.foldl_nil]
        obtain ⟨d, hd⟩ : ∃ d : Int, (q3 : Int) + U = d := ⟨_, rfl⟩
        have hd0 : 1 ≤ d := by omega
        have hd1 : d ≤ 100000 := by omega
        rw [hd] at hg5
        have hfar := Lib.hid (tok_far hG.out hg3.out he4.out hg4.out (fun h => absurd rfl h) (fun _ => hg5.out))
        rw [hM.out] at hfar
        clear hG hg3 hg4 he4 hg5
        obtain ⟨bd, hbd⟩ : ∃ b, Hid (decide ((M : Int) < d) = b) := ⟨_, rfl⟩
        obtain ⟨lt, hlt⟩ : ∃ b, Hid (decide (most - (M : Int) < len) = b) := ⟨_, rfl⟩
        have hw : IntKind.i64.wrap (most - (M : Int)) = most - M := IntWalk.i64_in _ ⟨by omega, by omega⟩
        obtain ⟨e6, he6⟩ : ∃ x, Hid (fltF bd 2 e5 = x) := ⟨_, rfl⟩
        obtain ⟨e7, he7⟩ : ∃ x, Hid (fltF lt 12 e6 = x) := ⟨_, rfl⟩
        have hend : Hid ((e7 ≠ 0 → Faults B most st0 e7) ∧ (e7 = 0 → e5 = 0 ∧ ¬ (M : Int) < d ∧ ¬ most - (M : Int) < len)) := Lib.hid (by
          have hf := hfar.out
          rw [← he7.out, ← he6.out]
          by_cases h5 : e5 = 0
          · subst h5
            have hf := hf.2 rfl
            by_cases hdl : (M : Int) < d
            · have : bd = true := by rw [← hbd.out, decide_eq_true hdl]
              rw [this, flt_yes, flt_ne (by decide)]
              exact ⟨fun _ => (tok_round hst.out (by rw [hGG.out]; exact hf.1 hdl)).1 (by decide), fun h => absurd h (by decide)⟩
            · have : bd = false := by rw [← hbd.out, decide_eq_false hdl]
              rw [this, flt_no]
              by_cases hl : most - (M : Int) < len
              · have : lt = true := by rw [← hlt.out, decide_eq_true hl]
                rw [this, flt_yes]
                exact ⟨fun _ => (tok_round hst.out (by rw [hGG.out]; exact (hf.2 (by omega)).1 hl)).1 (by decide), fun h => absurd h (by decide)⟩
              · have : lt = false := by rw [← hlt.out, decide_eq_false hl]
                rw [this, flt_no]
                exact ⟨fun h => absurd rfl h, fun _ => ⟨rfl, hdl, hl⟩⟩
          · rw [flt_ne h5, flt_ne h5]
            exact ⟨fun _ => (tok_round hst.out (by rw [hGG.out]; exact hf.1 h5)).1 h5, fun h => absurd h h5⟩)
        obtain ⟨a, c1, b, h1, h2, HI⟩ := HD.sta
        rw [hM.out] at HI h1
        have c0 := HI.cells
        have HQ := Lib.hid (rfault_any (g := g) (rg := rg) bd 2 HD)
        rw [he6.out] at HQ
        have hbd1 := hbd.out
        go_wp2_with fail
        refine HQ.out.mono ?_
        rintro e0 w5 ⟨_, rfl, H5⟩
        clear HQ HD HI c0 hbd1 hbd
        obtain ⟨a, c1, b, h1, h2, HI⟩ := H5.sta
        rw [hM.out] at HI h1
        clear H5
        go_upto_region 18 with (fail)
        refine wp_region_calm (fun w1 => Own w0 w1 (blk g (.cells #[.pointer (some ⟨rg, 0, none⟩), .slice a M c1, .int .i64 most, .int .i64 e6, .bool b] 67) :: slc 5 1 (.slice a M c1) M (bcells out1) :: RRdr rg s n5 :: PS)) 13 (by kernel_rfl) (by kernel_rfl) HI.drew ?_
        simp only [List.take_succ_cons, List.take_zero, List.drop_succ_cons, List.drop_zero]
        repeat
          first
          | (refine calm_value (v := ?_) (by decide) rfl (fun σ w1 hS => ?_) ?_
             rotate_left
             · have c0 := hS.cells
               first | (go_simp; rfl) | rfl
             simp only [Act.put, List.setIfInBounds_toArray, List.set_cons_zero, List.set_cons_succ])
          | (refine calm_skip (by decide) rfl ?_
             simp only [Act.put, List.setIfInBounds_toArray, List.set_cons_zero, List.set_cons_succ])
        refine calm_nil ?_
        intro wd3 HD
        rw [hlt.out]
        clear HI
        have HQ := Lib.hid (rfault_any (g := g) (rg := rg) lt 12 (HD.unsta hM.out.symm))
        rw [he7.out] at HQ
        go_wp2_with fail
        refine HQ.out.mono ?_
        rintro e0 w6 ⟨_, rfl, H6⟩
        clear HQ HD hlt he6 he7 h1 h2
        by_cases he70 : e7 = 0
        case neg =>
          have heb : (e7 == 0) = false := by simp [he70]
          have hfin := Lib.hid (hend.out.1 he70)
          replace he70 := Lib.hid he70
          clear hend hfar hst hGG
          have hlI : (0 : Int) < len := by omega
          go_wp2_with fail
          go_loopw [16] (fun v16 wx => v16 = .int .i64 0 ∧ Own w0 wx (Sta g rg s n5 out1 most e7 :: PS)) (fun _ _ => 0)
          case atStart => exact ⟨rfl, H6⟩
          case round =>
            clear H6
            obtain ⟨rfl, H6⟩ := hrel
            have ce := H6.sta_e
            go_wp2
            go_roundw
            case rel => exact ⟨out1, n5, e7, by rw [hM.out]; exact ho, hf3', Lib.hid ⟨fun h => absurd h he70.out, fun _ => hfin.out⟩, H6⟩
            case measure => rw [hmz.out, tmeas_sta H6, if_neg he70.out]; have := hmN.out; omega
        subst he70
        obtain ⟨rfl, hb1, hb2⟩ := hend.out.2 rfl
        have hfin := Lib.hid (((tok_round hst.out (by rw [hGG.out]; exact ((hfar.out.2 rfl).2 (by omega)).2 (by omega))).2 rfl).1 _ rfl)
        clear hend hfar hst hGG
        obtain ⟨dd, rfl⟩ : ∃ j : Nat, d = j := ⟨d.toNat, by omega⟩
        obtain ⟨nn, rfl⟩ : ∃ j : Nat, len = j := ⟨len.toNat, by omega⟩
        simp only [Int.toNat_natCast] at hfin
        have hdd1 : 1 ≤ dd := by omega
        have hnn1 : 1 ≤ nn := by omega
        have hd2 : dd ≤ M := by omega
        have hnM : (M : Int) + nn ≤ most := by omega
        clear hb1 hb2 hd0 hl0 hv0 hv1 hvb hv3 hk0 hk1 hd hlen
        go_wp2_with fail
        go_loopw [16] (fun v16 wx => ∃ j : Nat, v16 = .int .i64 j ∧ j ≤ nn ∧ Own w0 wx (Sta g rg s n5 (copyN dd out1 j) most 0 :: PS)) (fun v16 _ => nn - (intOf v16).toNat)
        case atStart => exact ⟨0, by go_num, by omega, H6⟩
        case round =>
          clear H6
          obtain ⟨j, rfl, hj, H⟩ := hrel
          have ce := H.sta_e
          by_cases hjm : j < nn
          case neg =>
            obtain rfl : j = nn := by omega
            have hjI : ¬ (j : Int) < (j : Int) := by omega
            have hcl : (copyN dd out1 j).length = M + j := by rw [copyN_length, hM.out]
            go_wp2_with fail
            go_roundw
            case rel => exact ⟨copyN dd out1 j, n5, 0, by rw [hcl]; omega, hf3', hfin, H⟩
            case measure => rw [hmz.out, tmeas_sta H, if_pos rfl, hcl]; have := hmN.out; omega
          have hjI : (j : Int) < (nn : Int) := by omega
          obtain ⟨N, hN⟩ : ∃ N, Hid (M + j = N) := ⟨_, rfl⟩
          have hcl : (copyN dd out1 j).length = N := by rw [copyN_length, hM.out, hN.out]
          have hNb : N + 1 ≤ 1000000 := by have := hN.out; omega
          obtain ⟨q, hq⟩ : ∃ q, Hid (N - dd = q) := ⟨_, rfl⟩
          have hdN : dd ≤ N := by have := hN.out; omega
          have hqI : (N : Int) - (dd : Int) = (q : Int) := by have := hq.out; omega
          have hqN : q < N := by have := hq.out; omega
          have hqNI : (q : Int) < (N : Int) := by omega
          obtain ⟨x, hx⟩ : ∃ x, (copyN dd out1 j)[q]? = some x := ⟨_, List.getElem?_eq_getElem (by omega)⟩
          have hnx : Hid (copyN dd out1 (j + 1) = copyN dd out1 j ++ [x]) := Lib.hid (by
            rw [copyN, hcl, hq.out, List.getD_eq_getElem?_getD, hx]; rfl)
          have HX := Lib.hid (bcells_get hx)
          clear hx
          obtain ⟨OJ, hOJ⟩ : ∃ OJ, Hid (copyN dd out1 j = OJ) := ⟨_, rfl⟩
          rw [hOJ.out] at H HX hnx hcl
          obtain ⟨a, c1, b, h1, h2, HI⟩ := H.sta
          rw [hcl] at HI h1
          obtain ⟨gb, cc, hgb, hg1, hg2, -⟩ := (HI.front 1 rfl).at (by rw [bcells_length, hcl]; omega)
          cases hgb
          replace hcl := Lib.hid hcl
          have hw2 : IntKind.i64.wrap (q : Int) = q := IntWalk.i64_in _ ⟨by omega, by omega⟩
          have hcell : ∀ (w1 : World) (qs : List Piece), Own w0 w1 (blk g (.cells #[.pointer (some ⟨rg, 0, none⟩), .slice (some ⟨gb, 0, none⟩) N c1, .int .i64 most, .int .i64 0, .bool b] 67) :: slc 5 1 (.slice (some ⟨gb, 0, none⟩) N c1) N (bcells OJ) :: qs) → w1.cell? ⟨gb, q, none⟩ = some (.int .u8 x) := fun w1 qs h => by
            have h3 := (h.front 1 rfl).rd.cell HX.out
            rwa [Nat.zero_add] at h3
          replace hcell := Lib.hid hcell
          clear H
          go_upto_region 22 with (fail)
          clear ce
          refine wp_region_pres (fun σ w1 => Own w0 w1 (newR (.cells #[.int .u8 x] 5) 1 (σ 18) ++ (blk g (.cells #[.pointer (some ⟨rg, 0, none⟩), .slice (some ⟨gb, 0, none⟩) N c1, .int .i64 most, .int .i64 0, .bool b] 67) :: slc 5 1 (.slice (some ⟨gb, 0, none⟩) N c1) N (bcells OJ) :: RRdr rg s n5 :: PS))) 19 [18] [0] (by kernel_rfl) (by kernel_rfl) (by kernel_rfl) (by kernel_rfl) (fun _ _ d _ _ h => by cases d <;> exact h) ⟨_, _, rfl, fun w => (by first | rfl | (go_simp; rfl)), rfl⟩ HI.drew ?_
          simp only [List.take_succ_cons, List.take_zero, List.drop_succ_cons, List.drop_zero]
          repeat
            first
            | (refine calm_value (v := ?_) (by decide) rfl (fun σ w1 hS => ?_) ?_
               rotate_left
               · have c0 := hS.skip.cells; have c3 := hcell.out _ _ hS.skip
                 first | (go_simp; rfl) | rfl
               simp only [Act.put, List.setIfInBounds_toArray, List.set_cons_zero, List.set_cons_succ])
            | (refine calm_skip (by decide) rfl ?_
               simp only [Act.put, List.setIfInBounds_toArray, List.set_cons_zero, List.set_cons_succ])
          refine calm_row (by decide) (fun w1 => (by go_simp)) ?_
          refine calm_nil ?_
          intro σ wd hσ HD
          obtain ⟨vn, hvn⟩ := Option.isSome_iff_exists.1 (hσ 18 (by decide))
          rw [hvn] at HD
          obtain ⟨g2, rfl, HN⟩ := HD.newr
          clear HD HI hcell
          simp only [putNew, List.foldl_cons, List.foldl_nil, hvn]
          simp only [Act.put, List.setIfInBounds_toArray, List.set_cons_zero, List.set_cons_succ, List.getElem?_cons_succ, List.getElem?_cons_zero, Option.bind_some, Option.getD_some]
          have hrow := (HN.slc_mk (xs := [.int .u8 x]) (n := 1) (size := 1) rfl (Nat.le_refl _) (by decide) rfl rfl).rd
          have H3 := HN.drop.front 1 rfl
          clear HN hσ hvn
          go_wp2_with (first
            | (at_builtin; refine wpList_append_sep rfl _ _ rfl Try.underlying54 u8Info rfl (by decide) rfl H3 hrow (by simp [Value.oneCell']) (by omega) (by omega) ?_; clear H3 hrow; intro v' w' H; obtain ⟨a', c', rfl, h1', h2'⟩ := H.rd.shape)
            | (refine wpList_store_slice rfl _ _ rfl rfl (H.front 1 rfl) rfl (by kernel_rfl) (by simp) ?_; clear H; intro w2 H))
          have hlen : N + 1 = (OJ ++ [x]).length := by rw [List.length_append, hcl.out]; rfl
          have H4 : Own w0 w2 (Sta g rg s n5 (copyN dd out1 (j + 1)) most 0 :: PS) := by
            rw [hnx.out]
            exact Own.unsta (by rw [← bcells_snoc]; exact H) hlen
          clear H
          go_roundw
          case rel => exact ⟨j + 1, by go_num, by omega, H4⟩
          case measure => simp [intOf]; omega
end Go.Proofs.Ytpbodonmiepilaa
/- flate: the walk of the document's fixed codes. -/
namespace Go.Proofs.Ytpbodonmiepilaa
open Go.RowKit

theorem fixL_get : ∀ i : Fin 288, fixL.getD i.1 0 = if i.1 < 144 then 8 else if i.1 < 256 then 9 else if i.1 < 280 then 7 else 8 := by decide +kernel
theorem fixL_take (k : Nat) (h : k < 288) : fixL.take (k + 1) = fixL.take k ++ [fixL.getD k 0] := by
  rw [List.take_add_one, getD_get (by rw [fixL_ok.1]; exact h)]; rfl
theorem fixD_take (k : Nat) (h : k < 32) : fixD.take (k + 1) = fixD.take k ++ [5] := by
  rw [List.take_add_one, getD_get (by rw [fixD_ok.1]; exact h), (show ∀ i : Fin 32, fixD.getD i.1 0 = 5 by decide +kernel) ⟨k, h⟩]; rfl
set_option maxRecDepth 100000 in
set_option maxHeartbeats 1600000 in
theorem rfixed_any (w : World) : Calls Try.prog 43 #[] w (Ret fun r w' => ∃ v u, r = .tuple #[v, u] ∧ Own w w' [slc 3 1 u 32 (nums fixD), slc 3 1 v 288 (nums fixL)]) := by
  have H := (Own.start w).nil 3 1
  go_enter Try.func43, Try.ntmps43
  go_wp2_with fail
  go_loopw [2, 4] (fun s2 s4 wx => ∃ k : Nat, s4 = .int .i64 k ∧ k ≤ 288 ∧ Own w wx [slc 3 1 s2 k (nums (fixL.take k))]) (fun _ s4 _ => 288 - (intOf s4).toNat)
  case atStart => exact ⟨0, by go_num, by omega, H⟩
  case round =>
    clear H
    obtain ⟨k, rfl, hk, H⟩ := hrel
    obtain ⟨a2, c2, rfl, -⟩ := H.rd.shape
    by_cases hlt : k < 288
    · have hI : (k : Int) < 288 := by omega
      have hg := fixL_get ⟨k, hlt⟩
      have ht := fixL_take k hlt
      simp only at hg
      have hn : ∀ n : Int, fixL.getD k 0 = n → Hid (nums (fixL.take k) ++ [.int .i64 n] = nums (fixL.take (k + 1))) := fun n h => Lib.hid (by rw [ht, h]; simp [nums])
      have hw : IntKind.i64.wrap ((k : Int) + 1) = (k : Int) + 1 := IntWalk.i64_in _ ⟨by omega, by omega⟩
      have fin : ∀ (n : Int), fixL.getD k 0 = n → n = 8 ∨ n = 9 ∨ n = 7 := by intro n h; rw [hg] at h; split at h <;> (try split at h) <;> (try split at h) <;> omega
      clear fin
      by_cases h1 : k < 144
      case' pos =>
        rw [if_pos h1] at hg
        have HN := hn 8 hg
        have e1 : ¬ 144 ≤ (k : Int) := by omega
        have e2 : ¬ 256 ≤ (k : Int) := by omega
      case' neg =>
        rw [if_neg h1] at hg
        have e1 : 144 ≤ (k : Int) := by omega
        by_cases h2 : k < 256
        case' pos =>
          rw [if_pos h2] at hg
          have HN := hn 9 hg
          have e2 : (k : Int) < 256 := by omega
        case' neg =>
          rw [if_neg h2] at hg
          have e2 : ¬ (k : Int) < 256 := by omega
          by_cases h3 : k < 280
          case' pos =>
            rw [if_pos h3] at hg
            have HN := hn 7 hg
            have e3 : (k : Int) < 280 := by omega
          case' neg =>
            rw [if_neg h3] at hg
            have HN := hn 8 hg
            have e3 : ¬ (k : Int) < 280 := by omega
      all_goals
        clear hg ht hn
        go_wp2_with (at_builtin; refine wpList_append_one rfl _ _ rfl Try.underlying22 intInfo rfl (by decide) rfl H (news := [.int .i64 _]) rfl rfl rfl (by simp [Value.oneCell']) (by omega) (by omega) ?_; clear H; intro v' w' H; rw [HN.out] at H; obtain ⟨a4, c4, rfl, -⟩ := H.rd.shape)
        go_roundw
        case rel => exact ⟨k + 1, by go_num, by omega, H⟩
        case measure => simp [intOf]; omega
    · obtain rfl : k = 288 := by omega
      have hI : ¬ (((288 : Nat) : Int) < 288) := by omega
      rw [List.take_of_length_le (by rw [fixL_ok.1]; exact Nat.le_refl _)] at H
      replace H := H.nil 3 1
      go_wp2_with fail
      go_loopw [3, 6] (fun s3 s6 wx => ∃ k : Nat, s6 = .int .i64 k ∧ k ≤ 32 ∧ Own w wx [slc 3 1 s3 k (nums (fixD.take k)), slc 3 1 (.slice a2 288 c2) 288 (nums fixL)]) (fun _ s6 _ => 32 - (intOf s6).toNat)
      case atStart => exact ⟨0, by go_num, by omega, H⟩
      case round =>
        clear H hk
        obtain ⟨k, rfl, hk, H⟩ := hrel
        obtain ⟨a3, c3, rfl, -⟩ := H.rd.shape
        by_cases hlt : k < 32
        · have hI : (k : Int) < 32 := by omega
          have HN : Hid (nums (fixD.take k) ++ [.int .i64 5] = nums (fixD.take (k + 1))) := Lib.hid (by rw [fixD_take k hlt]; simp [nums])
          go_wp2_with (at_builtin; refine wpList_append_one rfl _ _ rfl Try.underlying22 intInfo rfl (by decide) rfl H (news := [.int .i64 5]) rfl rfl rfl (by simp [Value.oneCell']) (by omega) (by omega) ?_; clear H; intro v' w' H; rw [HN.out] at H; obtain ⟨a4, c4, rfl, -⟩ := H.rd.shape)
          go_roundw
          case rel => exact ⟨k + 1, by go_num, by omega, H⟩
          case measure => simp [intOf]; omega
        · obtain rfl : k = 32 := by omega
          have hI : ¬ (((32 : Nat) : Int) < 32) := by omega
          rw [List.take_of_length_le (by rw [fixD_ok.1]; exact Nat.le_refl _)] at H
          go_wp2_with fail
          go_ret2
          exact ⟨_, rfl, _, _, rfl, H⟩
end Go.Proofs.Ytpbodonmiepilaa
/- inflate, the document's: the walks of Go, Inflate. -/
namespace Go.Proofs.Ytpbodonmiepilaa
open Go.RowKit

theorem Own.sta_n {w0 w : World} {ps : List Piece} {g rg n : Nat} {s : ByteArray} {out : List Int} {most e : Int} (H : Own w0 w (Sta g rg s n out most e :: ps)) : w.cell? ⟨rg, 1, none⟩ = some (.int .i64 n) := by
  obtain ⟨a, c, b, _, _, H⟩ := H.sta
  have H2 := H.front 2 rfl
  unfold RRdr at H2
  rw [H2.cells]; rfl
theorem imeas_sta {w0 w : World} {ps : List Piece} {z g rg n : Nat} {s : ByteArray} {out : List Int} {most e a : Int} (H : Own w0 w (Sta g rg s n out most e :: ps)) : imeas z (.int .i64 a) ((w.cell? ⟨g, 3, none⟩).getD undef) ((w.cell? ⟨rg, 1, none⟩).getD undef) = if a = 0 ∧ e = 0 then 8 * z + 1 - n else 0 := by
  unfold imeas
  rw [H.sta_n, H.sta_e]
  rfl
/-- What Go leaves. -/
def RGoP (w : World) (s : ByteArray) (B : List Bool) (m : Int) (r : Value) (w' : World) : Prop :=
  ∃ (g rg n : Nat) (out : List Int) (e : Int), r = .pointer (some ⟨g, 0, none⟩) ∧ n ≤ 8 * s.size ∧ (out.length : Int) ≤ m ∧ (e ≠ 0 → Faults B m Inf.init e) ∧ (e = 0 → TokEnd B m true Inf.init out n 0) ∧ Own w w' [Sta g rg s n out m e]
set_option maxRecDepth 100000 in
set_option maxHeartbeats 3200000 in
theorem rgo_any (w : World) (s : ByteArray) (most : Int) (hm : most ≤ 1000000) (hs : s.size ≤ 1000000) :
    Calls Try.prog 29 #[.string s, .int .i64 most] w (Ret (RGoP w s (textBits s) (max most 0))) := by
  obtain ⟨B, hB⟩ : ∃ B, Hid (textBits s = B) := ⟨_, rfl⟩
  have hBl : Hid (B.length = 8 * s.size) := Lib.hid (by rw [← hB.out, textBits_length])
  obtain ⟨m, hmm, hm0, hm1⟩ : ∃ m, Hid (max most 0 = m) ∧ 0 ≤ m ∧ m ≤ 1000000 := ⟨_, Lib.hid rfl, by omega, by omega⟩
  rw [hB.out, hmm.out]
  go_enter Try.func29, Try.ntmps29
  go_upto_region 1 with (fail)
  go_cut [5] (fun s5 wx => ∃ g rg : Nat, s5 = .pointer (some ⟨g, 0, none⟩) ∧ Own w wx [Sta g rg s 0 [] m 0])
  case first =>
    have H1 := ((Own.start w).alloc (.cells #[.string s, .int .i64 0] 69)).nil 5 1
    have H2 := H1.alloc (.cells #[.pointer (some ⟨w.heap.size, 0, none⟩), .slice none 0 0, .int .i64 m, .int .i64 0, .bool false] 67)
    have H3 := Own.unsta (out := []) (n := 0) (g := (w.alloc (.cells #[.string s, .int .i64 0] 69)).heap.size) (rg := w.heap.size) H2 rfl
    rw [show (w.alloc (.cells #[.string s, .int .i64 0] 69)).heap.size = w.heap.size + 1 from Array.size_push ..] at H3
    replace H3 := Lib.hid H3
    clear H1 H2
    by_cases hneg : most < 0
    · obtain rfl : m = 0 := by have := hmm.out; omega
      have hneg2 : ¬ 0 ≤ most := by omega
      go_wp2
      go_meet
      exact ⟨_, _, rfl, H3.out⟩
    · have hneg2 : 0 ≤ most := by omega
      obtain rfl : m = most := by have := hmm.out; omega
      go_wp2
      go_meet
      exact ⟨_, _, rfl, H3.out⟩
  case rest =>
  obtain ⟨g, rg, rfl, H⟩ := hcut
  have hst : Hid (TokEnd B m false Inf.init [] 0 0) := Lib.hid ⟨fun _ => .refl _, fun h => absurd rfl h⟩
  go_wp2_with fail
  go_loopw [6] (fun s6 wx => ∃ (last : Bool) (a : Int) (out : List Int) (n : Nat) (e : Int), s6 = .int .i64 a ∧ Hid (e = 0 → (a = 0 ∧ last = false ∨ a = 1 ∧ last = true)) ∧ (out.length : Int) ≤ m ∧ n ≤ 8 * s.size ∧ Hid (TokEnd B m last Inf.init out n e) ∧ Own w wx [Sta g rg s n out m e]) (fun s6 wx => imeas s.size s6 ((wx.cell? ⟨g, 3, none⟩).getD undef) ((wx.cell? ⟨rg, 1, none⟩).getD undef))
  case atStart => exact ⟨false, 0, [], 0, 0, rfl, Lib.hid fun _ => .inl ⟨rfl, rfl⟩, by simpa using hm0, by omega, hst, H⟩
  case round =>
    clear H hst
    obtain ⟨last, a, out, n, e, rfl, hla, ho, hn, hst, H⟩ := hrel
    have ce := H.sta_e
    have hmz : Hid (imeas s.size (.int .i64 a) ((wr.cell? ⟨g, 3, none⟩).getD undef) ((wr.cell? ⟨rg, 1, none⟩).getD undef) = if a = 0 ∧ e = 0 then 8 * s.size + 1 - n else 0) := Lib.hid (imeas_sta H)
    by_cases hx : a = 0 ∧ e = 0
    case neg =>
      have hfin : Hid (RGoP w s B m (.pointer (some ⟨g, 0, none⟩)) wr) := Lib.hid (by
        refine ⟨g, rg, n, out, e, rfl, hn, ho, hst.out.2, fun he => ?_, H⟩
        subst he
        rcases hla.out rfl with h | h
        · exact absurd ⟨h.1, rfl⟩ hx
        · rw [← h.2]; exact hst.out)
      clear hmz hst hla
      by_cases ha : a = 0
      · have hab : (a == 0) = true := by simp [ha]
        have heb2 : (e == 0) = false := by simp; intro h; exact hx ⟨ha, h⟩
        clear ha hx
        go_wp2
        go_ret
        exact ⟨_, rfl, hfin.out⟩
      · have hab : (a == 0) = false := by simp [ha]
        clear ha hx
        go_wp2
        go_ret
        exact ⟨_, rfl, hfin.out⟩
    obtain ⟨rfl, rfl⟩ := hx
    obtain rfl : last = false := by have := hla.out rfl; simpa using this
    replace hmz := Lib.hid (hmz.out.trans (if_pos ⟨rfl, rfl⟩))
    clear hla
    have HT := rtk_any 1 (by omega) H hs hn
    rw [hB.out] at HT
    replace HT := Lib.hid HT
    go_wp2_with fail
    refine HT.out.mono ?_
    rintro e0 w1 ⟨_, rfl, a, n1, e1, rfl, ha0, ha1, hn1, -, hg1, H1⟩
    replace hg1 := Lib.hid (hg1 trivial)
    clear HT H ce
    have HT := rtk_any 2 (by omega) H1 hs hn1
    rw [hB.out] at HT
    replace HT := Lib.hid HT
    go_wp2_with fail
    refine HT.out.mono ?_
    rintro e0 w2 ⟨_, rfl, k, n2, e2, rfl, hk0, hk1, hn2, he2, hg2, H2⟩
    have hht := Lib.hid (head_takes (most := m) (out := out) hg1.out (fun h => (he2 h).1) hg2)
    clear HT H1 hg1 he2 hg2
    obtain ⟨b3, hb3⟩ : ∃ b, Hid ((k == 3) = b) := ⟨_, rfl⟩
    obtain ⟨e3, he3⟩ : ∃ x, Hid (fltF b3 2 e2 = x) := ⟨_, rfl⟩
    have HQ := Lib.hid (rfault_any (g := g) (rg := rg) b3 2 H2)
    rw [he3.out] at HQ
    have hb31 := hb3.out
    go_wp2_with fail
    refine HQ.out.mono ?_
    rintro e0 w3 ⟨_, rfl, H3⟩
    clear HQ H2 hb31
    have ce := H3.sta_e
    by_cases he : e3 = 0
    case neg =>
      have heb : (e3 != 0) = true := by simp [he]
      have heb2 : (e3 == 0) = false := by simp [he]
      have hfl : Faults B m Inf.init e3 := by
        by_cases h2 : e2 = 0
        · obtain ⟨-, -, -, hG⟩ := hht.out.2 h2
          cases b3 with
          | true =>
            have : e3 = 2 := by rw [← he3.out, h2, flt_yes]
            have hk3 : k = 3 := by simpa using hb3.out
            have hgh : GotR (headG B m ⟨n, out, none, false⟩) Inf.init 0 2 := by
              rw [hG, if_neg (by omega), if_neg (by omega), if_neg (by omega)]
              rfl
            rw [this]
            exact (head_round hst.out hgh).1 (by decide)
          | false => rw [← he3.out, flt_no] at he; exact absurd h2 he
        · have : e3 = e2 := by rw [← he3.out, flt_ne h2]
          rw [this]
          exact (head_round hst.out (hht.out.1 h2)).1 h2
      have hfin : Hid (RGoP w s B m (.pointer (some ⟨g, 0, none⟩)) w3) := Lib.hid ⟨g, rg, n2, out, e3, rfl, hn2, ho, fun _ => hfl, fun h => absurd h he, H3⟩
      clear hht hmz hst he hb3 he3 hfl
      go_wp2
      go_ret
      exact ⟨_, rfl, hfin.out⟩
    subst he
    have he20 : e2 = 0 := by
      by_cases h2 : e2 = 0
      · exact h2
      · have h := he3.out
        rw [flt_ne h2] at h
        exact h
    have hk3 : k ≠ 3 := fun h => by
      have h1 := hb3.out
      have h2 := he3.out
      have : b3 = true := by rw [← h1, h]; rfl
      rw [this, he20, flt_yes] at h2
      cases h2
    clear hb3 he3
    obtain ⟨hab, hkb, hn3, hG⟩ := hht.out.2 he20
    clear he20
    replace hG := Lib.hid hG
    replace hn3 := Lib.hid hn3
    clear hht
    obtain ⟨la, hla⟩ : ∃ la, Hid (decide (a = 1) = la) := ⟨_, rfl⟩
    have hla2 : Hid (a = 0 ∧ la = false ∨ a = 1 ∧ la = true) := Lib.hid (by
      rw [← hla.out]
      rcases (show a = 0 ∨ a = 1 by omega) with rfl | rfl
      · exact .inl ⟨rfl, rfl⟩
      · exact .inr ⟨rfl, rfl⟩)
    rw [hla.out] at hG
    clear hla
    by_cases hq0 : k = 0
    · subst hq0
      have hG0 := hG.out
      rw [if_pos rfl] at hG0
      replace hG := Lib.hid hG0
      clear hG0
      have HS := rstored_any ⟨hm0, hm1⟩ ho hs hn2 H3
      rw [hB.out] at HS
      replace HS := Lib.hid HS
      go_wp2_with fail
      refine HS.out.mono ?_
      rintro e0 w4 ⟨_, rfl, out2, n4, e4, hn4, ho2, hg4, H4⟩
      have hgh : GotR (headG B m ⟨n, out, none, false⟩) ⟨n4, out2, none, la⟩ n4 e4 := by
        rw [hG.out]
        by_cases h4 : e4 = 0
        · subst h4
          rw [gotR_ok hg4 stored_nbad, Got.bind_ok]
          exact ⟨rfl, rfl, rfl⟩
        · exact gotR_bind hg4 h4
      have hr := head_round hst.out hgh
      have hst2 : Hid (TokEnd B m la Inf.init out2 n4 e4) := Lib.hid ⟨hr.2, hr.1⟩
      have hle : Hid (e4 = 0 → n < n4) := Lib.hid (fun h4 => by
        subst h4
        have := (goes_stored B m out n2).le _ _ (gotR_ok hg4 stored_nbad)
        have := hn3.out
        omega)
      clear HS H3 hgh hr hst hg4 hG ce
      go_wp2_with fail
      go_roundw
      case rel => exact ⟨la, a, out2, n4, e4, rfl, Lib.hid fun _ => hla2.out, ho2, hn4, hst2, H4⟩
      case measure =>
        rw [hmz.out, imeas_sta H4]
        split
        · next h => have := hle.out h.2; omega
        · omega
    by_cases hq1 : k = 1
    · subst hq1
      have hgh : GotR (headG B m ⟨n, out, none, false⟩) ⟨n2, out, some fixTab, la⟩ n2 0 := by
        rw [hG.out, if_neg (by decide), if_pos rfl]
        exact ⟨rfl, rfl, rfl⟩
      have hst2 := Lib.hid ((head_round hst.out hgh).2 rfl)
      clear hgh hG hst
      have HF := Lib.hid (rfixed_any w3)
      go_wp2_with fail
      refine HF.out.mono ?_
      rintro e0 w4 ⟨_, rfl, va, vb, rfl, HX⟩
      have H4 : Own w w4 (Sta g rg s n2 out m 0 :: slc 3 1 vb 32 (nums fixD) :: slc 3 1 va 288 (nums fixL) :: []) := (H3.join HX).front 2 rfl
      clear HF HX H3 ce
      have HT := Lib.hid (rtokens_any (ps := slc 3 1 vb 32 (nums fixD) :: slc 3 1 va 288 (nums fixL) :: []) (L := fixL) (D := fixD) (lv := va) (dv := vb) la (fun w' h => by rw [fixL_ok.1]; exact (h.front 1 rfl).rd) (fun w' h => by rw [fixD_ok.1]; exact h.rd) fix_terr.1 fix_terr.2 ⟨hm0, hm1⟩ ho hs hn2 H4)
      obtain ⟨va1, va2, rfl, -⟩ := (H4.front 2 rfl).rd.shape
      obtain ⟨vb1, vb2, rfl, -⟩ := (H4.front 1 rfl).rd.shape
      go_wp2_with fail
      refine HT.out.mono ?_
      rintro e0 w5 ⟨_, rfl, out2, n4, e4, ho2, hn4, hte, H5⟩
      rw [hB.out, ← fixTab_eq] at hte
      have hst3 : Hid (TokEnd B m la Inf.init out2 n4 e4) := Lib.hid (hte.from hst2.out)
      have hle : Hid (e4 = 0 → n < n4) := Lib.hid (fun h4 => by
        subst h4
        have h := hte.mono (by rw [hBl.out]; exact hn2)
        have h : n2 ≤ n4 := h
        have := hn3.out
        omega)
      clear HT H4 hte hst2
      have H6 : Own w w5 [Sta g rg s n4 out2 m e4] := ((H5.front 1 rfl).drop.front 1 rfl).drop
      clear H5
      go_wp2_with fail
      go_roundw
      case rel => exact ⟨la, a, out2, n4, e4, rfl, Lib.hid fun _ => hla2.out, ho2, hn4, hst3, H6⟩
      case measure =>
        rw [hmz.out, imeas_sta H6]
        split
        · next h => have := hle.out h.2; omega
        · omega
    · obtain rfl : k = 2 := by omega
      have hG0 := hG.out
      rw [if_neg (by decide), if_neg (by decide), if_pos rfl] at hG0
      replace hG := Lib.hid hG0
      clear hG0
      have HD := rtold_any hs hn2 H3
      rw [hB.out] at HD
      replace HD := Lib.hid HD
      go_wp2_with fail
      refine HD.out.mono ?_
      rintro e0 w4 ⟨_, rfl, va, vb, T, n4, e4, rfl, hn4, hg4, hd1, hd2⟩
      replace hd1 := Lib.hid hd1
      replace hd2 := Lib.hid hd2
      clear HD H3 ce
      have hgh : GotR (headG B m ⟨n, out, none, false⟩) ⟨n4, out, some T, la⟩ n4 e4 := by
        rw [hG.out]
        by_cases h4 : e4 = 0
        · subst h4
          rw [gotR_ok hg4 codes_nbad, Got.bind_ok]
          exact ⟨rfl, rfl, rfl⟩
        · exact gotR_bind hg4 h4
      have hr := Lib.hid (head_round hst.out hgh)
      have hle0 : Hid (e4 = 0 → n < n4) := Lib.hid (fun h4 => by
        subst h4
        have := (goes_codes B n2).le _ _ (gotR_ok hg4 codes_nbad)
        have := hn3.out
        omega)
      clear hgh hst hg4 hG
      by_cases h4 : e4 = 0
      case neg =>
        have H4 := hd1.out h4
        have ce := H4.sta_e
        have hst3 : Hid (TokEnd B m la Inf.init out n4 e4) := Lib.hid ⟨fun h => absurd h h4, hr.out.1⟩
        have h4b : (e4 == 0) = false := by simp [h4]
        replace h4 := Lib.hid h4
        clear hr hd1 hd2
        go_wp2_with fail
        go_roundw
        case rel => exact ⟨la, a, out, n4, e4, rfl, Lib.hid fun _ => hla2.out, ho, hn4, hst3, H4⟩
        case measure =>
          rw [hmz.out, imeas_sta H4, if_neg (fun h => h4.out h.2)]
          omega
      subst h4
      obtain ⟨hT1, hT2, q, H4, hrd⟩ := hd2.out rfl
      have ce := H4.sta_e
      have hle1 := hle0.out rfl
      have hst2 := Lib.hid (hr.out.2 rfl)
      clear hd1 hd2 hr hle0
      have HT := Lib.hid (rtokens_any (ps := [q]) (L := T.1) (D := T.2) (lv := va) (dv := vb) la (fun w' h => (hrd w' _ h).1) (fun w' h => (hrd w' _ h).2) hT1 hT2 ⟨hm0, hm1⟩ ho hs hn4 H4)
      obtain ⟨va1, va2, rfl, -⟩ := (hrd _ _ H4.drop).1.shape
      obtain ⟨vb1, vb2, rfl, -⟩ := (hrd _ _ H4.drop).2.shape
      clear hrd
      go_wp2_with fail
      refine HT.out.mono ?_
      rintro e0 w5 ⟨_, rfl, out2, n5, e5, ho2, hn5, hte, H5⟩
      rw [hB.out] at hte
      have hst3 : Hid (TokEnd B m la Inf.init out2 n5 e5) := Lib.hid (hte.from hst2.out)
      have hle : Hid (e5 = 0 → n < n5) := Lib.hid (fun h4 => by
        subst h4
        have h := hte.mono (by rw [hBl.out]; exact hn4)
        have h : n4 ≤ n5 := h
        omega)
      clear HT H4 hte hst2 ce
      have H6 : Own w w5 [Sta g rg s n5 out2 m e5] := (H5.front 1 rfl).drop
      clear H5
      go_wp2_with fail
      go_roundw
      case rel => exact ⟨la, a, out2, n5, e5, rfl, Lib.hid fun _ => hla2.out, ho2, hn5, hst3, H6⟩
      case measure =>
        rw [hmz.out, imeas_sta H6]
        split
        · next h => have := hle.out h.2; omega
        · omega
set_option maxRecDepth 100000 in
set_option maxHeartbeats 3200000 in
theorem rinflate_any (w : World) (s : ByteArray) (most : Int) (hm : most ≤ 1000000) (hs : s.size ≤ 1000000) :
    Calls Try.prog 16 #[.string s, .int .i64 most] w (Ret fun r w' => ∃ t u e, r = .tuple #[.string t, .int .i64 u, .int .i64 e] ∧ InfRes (textBits s) (max most 0) t u e ∧ Own w w' []) := by
  have HG := rgo_any w s most hm hs
  generalize max most 0 = m at *
  replace HG := Lib.hid HG
  go_enter Try.func16, Try.ntmps16
  go_wp2_with fail
  refine HG.out.mono ?_
  rintro e0 w1 ⟨_, rfl, g, rg, n, out, e, rfl, hn, ho, hf1, hf2, H⟩
  clear HG
  have ce := H.sta_e
  by_cases he : e = 0
  case neg =>
    have heb : (e != 0) = true := by simp [he]
    have heb2 : (e == 0) = false := by simp [he]
    have hfin := Lib.hid (infRes_err (hf1 he))
    clear he hf1 hf2
    go_upto_region 3 with (fail)
    refine wp_region_calm (fun w1 => Own w w1 [Sta g rg s n out m e]) 6 (by kernel_rfl) (by kernel_rfl) H.drew ?_
    simp only [List.take_succ_cons, List.take_zero, List.drop_succ_cons, List.drop_zero]
    repeat
      first
      | (refine calm_value (v := ?_) (by decide) rfl (fun σ w1 hS => ?_) ?_
         rotate_left
         · have ce := hS.sta_e
           first | (go_simp; rfl) | rfl
         simp only [Act.put, List.setIfInBounds_toArray, List.set_cons_zero, List.set_cons_succ])
      | (refine calm_skip (by decide) rfl ?_
         simp only [Act.put, List.setIfInBounds_toArray, List.set_cons_zero, List.set_cons_succ])
    refine calm_nil ?_
    intro wd HD
    go_wp2_with fail
    go_ret3
    exact ⟨_, rfl, ByteArray.empty, 0, e, rfl, hfin.out, HD.bare⟩
  subst he
  have hfin := Lib.hid (infRes_ok (hf2 rfl))
  clear hf1 hf2
  obtain ⟨q, hq⟩ : ∃ q, Hid (nbytes n = q) := ⟨_, rfl⟩
  rw [hq.out] at hfin
  have hqb : q ≤ 1000000 := by have := hq.out; unfold nbytes at this; omega
  have hzq : ((n : Int) + 7) / 8 = (q : Int) := by have := hq.out; unfold nbytes at this; omega
  have hzq2 : ((n : Int) + 7).tdiv 8 = (q : Int) := by rw [Int.tdiv_eq_ediv_of_nonneg (by omega)]; exact hzq
  have hw7 : IntKind.i64.wrap ((n : Int) + 7) = (n : Int) + 7 := IntWalk.i64_in _ ⟨by omega, by omega⟩
  have hwq : IntKind.i64.wrap (q : Int) = (q : Int) := IntWalk.i64_in _ ⟨by omega, by omega⟩
  obtain ⟨sa, sc, b, h1, h2, HI⟩ := H.sta
  obtain ⟨N, hN⟩ : ∃ N, Hid (out.length = N) := ⟨_, rfl⟩
  rw [hN.out] at HI
  obtain ⟨st, hst⟩ : ∃ st, Hid (strOfNums out = st) := ⟨_, rfl⟩
  rw [hst.out] at hfin
  have hcv : ∀ (w1 : World) (v : Value) (qs : List Piece), Own w w1 (blk g (.cells #[.pointer (some ⟨rg, 0, none⟩), .slice sa N sc, .int .i64 m, .int .i64 0, .bool b] 67) :: slc 5 1 v N (bcells out) :: qs) → (convert 54 9 v).run Try.prog w1 = .ok (.string st) w1 := fun w1 v qs h => by
    rw [← hst.out]
    exact run_string_sep (P := Try.prog) 54 9 Try.underlying54 Try.underlying5 Try.underlying9 (ns := out) (h.front 1 rfl).rd
  replace hcv := Lib.hid hcv
  clear H
  go_upto_region 4 with (fail)
  clear ce
  refine wp_region_calm (fun w1 => Own w w1 [blk g (.cells #[.pointer (some ⟨rg, 0, none⟩), .slice sa N sc, .int .i64 m, .int .i64 0, .bool b] 67), slc 5 1 (.slice sa N sc) N (bcells out), RRdr rg s n]) 16 (by kernel_rfl) (by kernel_rfl) HI.drew ?_
  simp only [List.take_succ_cons, List.take_zero, List.drop_succ_cons, List.drop_zero]
  repeat
    first
    | (refine calm_value (v := ?_) (by decide) rfl (fun σ w1 hS => ?_) ?_
       rotate_left
       · have c0 := hS.cells; have c1 := hcv.out _ _ _ hS; have c2 := (hS.front 2 rfl).cells
         first | (go_simp; rfl) | rfl
       simp only [Act.put, List.setIfInBounds_toArray, List.set_cons_zero, List.set_cons_succ])
    | (refine calm_skip (by decide) rfl ?_
       simp only [Act.put, List.setIfInBounds_toArray, List.set_cons_zero, List.set_cons_succ])
  refine calm_nil ?_
  intro wd HD
  go_wp2_with fail
  go_ret3
  exact ⟨_, rfl, st, q, 0, rfl, hfin.out, HD.bare⟩
/-- The answer is one. -/
theorem infRes_one {bs : List Bool} {most : Int} {t t' : ByteArray} {u u' e e' : Int} (h : InfRes bs most t u e) (h' : InfRes bs most t' u' e') : t' = t ∧ u' = u ∧ e' = e := by
  unfold InfRes at h h'
  cases hi : inflF bs most with
  | ok out n => rw [hi] at h h'; obtain ⟨rfl, rfl, rfl⟩ := h; exact h'
  | err e0 => rw [hi] at h h'; obtain ⟨rfl, rfl, rfl⟩ := h; exact h'
  | more => rw [hi] at h; exact absurd h id
end Go.Proofs.Ytpbodonmiepilaa
