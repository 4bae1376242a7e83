/-
  huff: the closure that compares symbols by their frequencies; the sorts.
-/
import Derived.Test.YtfeamlbkogigkaaHufA
import Derived.Test.YtfeamlbkogigkaaHufS
namespace Go.Proofs.Ytfeamlbkogigkaa
open Go.RowKit

theorem byfreq_any {w0 : World} {ps : List Piece} {B n : Nat} {F : List Int} {v : Value} (hr : Rd w0 1 v n (nums F)) (hn : n ≤ 1000000) : SI.Cmps w0 (blk B (.cells #[v] 22) :: ps) B (fun x => 0 ≤ x ∧ x < F.length) (frq F) := by
  intro wz row H x y hx hy
  unfold SI.cg SI.ca
  obtain ⟨hx0, hx1⟩ := hx
  obtain ⟨hy0, hy1⟩ := hy
  obtain ⟨i, rfl⟩ : ∃ i : Nat, x = i := ⟨x.toNat, by omega⟩
  obtain ⟨j, rfl⟩ : ∃ j : Nat, y = j := ⟨y.toNat, by omega⟩
  have hl : F.length = n := by have := hr.len; rw [nums_length] at this; omega
  obtain ⟨b, o, cp, rfl, hc1, hc2⟩ := hr.some (by rw [nums_length]; omega)
  have hz := hr.old H
  have gi : F[i]? = some (frq F i) := by
    unfold frq
    rw [List.getElem?_eq_getElem (by omega)]
    simp [List.getD, show i < F.length by omega]
  have gj : F[j]? = some (frq F j) := by
    unfold frq
    rw [List.getElem?_eq_getElem (by omega)]
    simp [List.getD, show j < F.length by omega]
  have r0 := hz.cell (nums_get gi)
  have r1 := hz.cell (nums_get gj)
  generalize frq F i = fi at *
  generalize frq F j = fj at *
  obtain ⟨c, hc⟩ : ∃ c, Hid (cmpI fi fj = c) := ⟨_, rfl⟩
  rw [hc.out]
  have hiI : (i : Int) < (n : Int) := by omega
  have hjI : (j : Int) < (n : Int) := by omega
  have hR : ∀ (ps' : List Piece) (w' : World), Own wz w' ps' → w'.cell? ⟨b, o + i, none⟩ = some (.int .i64 fi) ∧ w'.cell? ⟨b, o + j, none⟩ = some (.int .i64 fj) := fun _ w' h => ⟨(hz.old h).cell (nums_get gi), (hz.old h).cell (nums_get gj)⟩
  have cB := (H.front 1 rfl).cells
  have hB : ∀ (ps' : List Piece) (w' : World), Own wz w' ps' → w'.cell? ⟨B, 0, none⟩ = some (.slice (some ⟨b, o, none⟩) n cp) := fun _ w' h => by
    rw [h.oldCell (cell_lt (by rw [cB]; rfl)), cB]; rfl
  have HR := Lib.hid hR
  have HB := Lib.hid hB
  clear hR hB
  have H1 := Own.start wz
  clear r0 r1 gi gj hr hl hx1 hy1 cB
  go_enter Try.func33, Try.ntmps33
  go_upto_region 1 with (fail)
  refine wp_region_calm (fun w1 => Own wz w1 []) 8 (by kernel_rfl) (by kernel_rfl) H1.drew ?_
  simp only [List.take_succ_cons, List.take_zero, List.drop_succ_cons, List.drop_zero]
  repeat
    first
    | (refine calm_value (v := ?_) (by decide) rfl (fun σ w1 hS => ?_) ?_
       rotate_left
       · have c0 := HB.out _ _ hS; obtain ⟨c1, c2⟩ := HR.out _ _ hS
         first | (go_simp; rfl) | rfl
       simp only [Act.put, List.setIfInBounds_toArray, List.set_cons_zero, List.set_cons_succ])
    | (refine calm_skip (by decide) rfl ?_
       simp only [Act.put, List.setIfInBounds_toArray, List.set_cons_zero, List.set_cons_succ])
  refine calm_nil ?_
  intro wd HD
  go_wp2_with fail
  refine (compare_any fi fj _).mono ?_
  rintro e w1 ⟨rfl, rfl⟩
  rw [hc.out]
  go_wp2
  go_ret
  exact ⟨_, rfl, rfl, HD⟩
end Go.Proofs.Ytfeamlbkogigkaa
