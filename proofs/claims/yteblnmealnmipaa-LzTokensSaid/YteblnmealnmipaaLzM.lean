/-
  lz: the chapter's examples; what comes in.
-/
import Derived.Test.YteblnmealnmipaaLzL
import Derived.Test.YteblnmealnmipaaOpen
namespace Go.Proofs.Yteblnmealnmipaa
open Go.RowKit Go.ChangeShapes Go.WideShapes Go.Deep

theorem awake_exp : resVal (exp 9 [⟨0, 0, 120⟩, ⟨4, 1, 0⟩] []) = .tuple #[.string ⟨#[120, 120, 120, 120, 120]⟩, .int .i64 0] := by kernel_rfl

set_option maxRecDepth 100000 in
set_option maxHeartbeats 1600000 in
theorem awake_any {w0 w : World} {ps : List Piece} (H : Own w0 w ps) : Calls Try.prog 12 #[] w (Ret fun v w' => v = .bool true ∧ Own w0 w' ps) := by
  have ha := Lib.hid awake_parse
  have hb := Lib.hid awake_exp
  go_enter Try.func12, Try.ntmps12
  go_wp2_with fail
  refine (lzparse_any H (by decide)).mono ?_
  rintro e w1 ⟨v1, rfl, H1⟩
  rw [ha.out] at H1
  clear H
  have H1 : Own w0 w1 (slc 36 3 v1 4 (rows tcell [⟨0, 0, 97⟩, ⟨0, 0, 98⟩, ⟨0, 0, 99⟩, ⟨6, 3, 0⟩]) :: ps) := H1
  obtain ⟨g1, c1, rfl, _⟩ := H1.at (by decide)
  go_wp2_with fail
  have H2 := H1.made (rows tcell [⟨0, 0, 120⟩, ⟨4, 1, 0⟩]) 36 3 2 (by decide) (by decide)
  refine (expand_any [⟨0, 0, 120⟩, ⟨4, 1, 0⟩] 9 H2.rd (by decide)).mono ?_
  rintro e w2 ⟨_, rfl, rfl, h2⟩
  rw [hb.out]
  have H3 := (H2.join h2)
  clear H1 H2 h2
  have H4 := H3.drop
  have c0 := H4.rd.cell ((rows_get tcell tcell_length (l := [⟨0, 0, 97⟩, ⟨0, 0, 98⟩, ⟨0, 0, 99⟩, ⟨6, 3, 0⟩]) (i := 3) rfl 0 (by omega)).trans rfl)
  have c1 := H4.rd.cell ((rows_get tcell tcell_length (l := [⟨0, 0, 97⟩, ⟨0, 0, 98⟩, ⟨0, 0, 99⟩, ⟨6, 3, 0⟩]) (i := 3) rfl 1 (by omega)).trans rfl)
  have c2 := H4.rd.cell ((rows_get tcell tcell_length (l := [⟨0, 0, 97⟩, ⟨0, 0, 98⟩, ⟨0, 0, 99⟩, ⟨6, 3, 0⟩]) (i := 3) rfl 2 (by omega)).trans rfl)
  simp only [Nat.zero_add, Nat.reduceMul, Nat.reduceAdd] at c0 c1 c2
  go_wp2
  go_ret
  exact ⟨_, rfl, rfl, H4.drop⟩

set_option maxRecDepth 100000 in
theorem parses_any {w : World} (s : ByteArray) : Calls Try.prog 3 #[.string s] w (Ret fun v w' => v = .bool true ∧ Own w w' []) := by
  have H := Own.start w
  go_enter Try.func3, Try.ntmps3
  go_wp2_with fail
  refine (cut_any s H).mono ?_
  rintro e w1 ⟨_, rfl, ⟨s', rfl, hs⟩, H1⟩
  clear H
  go_wp2_with fail
  refine (lzparse_any H1 (by omega)).mono ?_
  rintro e w2 ⟨v1, rfl, H2⟩
  clear H1
  go_wp2_with fail
  refine (refparse_any H2 (by omega)).mono ?_
  rintro e w3 ⟨v2, rfl, H3⟩
  clear H2
  have hpl := parse_length s'
  go_wp2_with fail
  refine (same_any (parse s') H3.swap.rd H3.rd (by omega)).mono ?_
  rintro e w4 ⟨_, rfl, rfl, h4⟩
  have H4 := (H3.join h4).bare
  clear H3 h4
  go_wp2_with fail
  refine (awake_any H4).mono ?_
  rintro e w5 ⟨_, rfl, rfl, H5⟩
  clear H4
  go_wp2
  go_ret
  exact ⟨_, rfl, rfl, H5⟩

/-! ### what comes in -/
theorem open_tok {H : Type} {enc : TypeId × Value → H} {w : World} {m : Nat} {cs : List Value} {x : DataW H × List MemPlace}
    (h : DataW.trod enc Try.prog w 0 (fun _ => true) true m 36 cs = some x) : ∃ t : Tok, cs = tcell t := by
  obtain ⟨y0, y1, y2, n, _, hl, g0, g1, g2⟩ := trod_struct3 Try.underlying36 h
  have hC : Try.prog.cellsOf 36 = 3 := by kernel_rfl
  have hi : Try.prog.cellsOf 3 = 1 := by kernel_rfl
  rw [hC] at hl
  match cs, hl with
  | [u0, u1, u2], _ =>
    simp only [hi] at g0 g1 g2
    obtain ⟨a, ha, _, wa⟩ := DataW.trod_int Try.underlying3 (by simpa using g0)
    obtain ⟨b, hb, _, wb⟩ := DataW.trod_int Try.underlying3 (by simpa using g1)
    obtain ⟨c, hc, _, wc⟩ := DataW.trod_int Try.underlying3 (by simpa using g2)
    simp at ha hb hc
    subst ha hb hc
    exact ⟨⟨a, b, c⟩, rfl⟩
instance : Inhabited Tok := ⟨⟨0, 0, 0⟩⟩
theorem open_toks {H : Type} {enc : TypeId × Value → H} {W : World} {a : Option Addr} {len cap : Nat} {d : DataW H} {p : List MemPlace}
    (h : DataW.Trod enc Try.prog W 0 (fun _ => true) true 24 (.slice a len cap) d p) :
    ∃ ds : List Tok, ds.length = len ∧ Rd W 3 (.slice a len cap) ds.length (rows tcell ds) := by
  obtain ⟨E, hr, hE, _⟩ := rd_open 3 Try.underlying24 (by kernel_rfl) rfl h
  obtain ⟨f, hf⟩ := choose_lt (α := Tok) (p := fun i x => E i = tcell x) (fun i hi => by
    obtain ⟨_, m, x, hx⟩ := hE i hi
    exact open_tok hx)
  refine ⟨(List.range len).map f, by simp, ?_⟩
  have e : rows tcell ((List.range len).map f) = (List.range len).flatMap E := by
    unfold rows
    rw [List.flatMap_map]
    exact flatMap_congr_range fun i hi => (hf i hi).symm
  rw [e]; simpa using hr
end Go.Proofs.Yteblnmealnmipaa
