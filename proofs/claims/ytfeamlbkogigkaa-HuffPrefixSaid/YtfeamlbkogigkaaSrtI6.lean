/-
  The stable sort of slices of ints: the walk of symMerge: what comes behind the search. (Written by tools/srt.py.)
-/
import Derived.Test.YtfeamlbkogigkaaSrtI5
namespace Go.Proofs.Ytfeamlbkogigkaa
open Go.RowKit
namespace SI
noncomputable def symTail (r : Nat) : Code := ((Try.f50.body.bind (fromR r)).getD .skip)
/-- What symMerge does with two parts of f elements at most. -/
def SymAt (w0 : World) (ps : List Piece) (ok : Int → Prop) (key : Int → Int) (B g c N f : Nat) : Prop :=
  ∀ (w : World) (p x y q : List Int) (a m b : Nat), x.length + y.length ≤ f → (∀ v ∈ x, ok v) → (∀ v ∈ y, ok v) → Srt key x → Srt key y → a = p.length → m = a + x.length → b = m + y.length → 0 < x.length → 0 < y.length → N = (p ++ x ++ y ++ q).length →
    Own w0 w (slc 3 1 (.slice (some ⟨g, 0, none⟩) N c) N (rows ie (p ++ x ++ y ++ q)) :: ps) →
    Calls Try.prog 50 #[.slice (some ⟨g, 0, none⟩) N c, .int .i64 a, .int .i64 m, .int .i64 b, cf B] w (Ret fun _ w' => ∃ z, Mrg key x y z ∧ Own w0 w' (slc 3 1 (.slice (some ⟨g, 0, none⟩) N c) N (rows ie (p ++ z ++ q)) :: ps))
section
variable {w0 : World} {ps : List Piece} {ok : Int → Prop} {key : Int → Int} {B : Nat}
set_option maxRecDepth 1000000 in
set_option maxHeartbeats 12800000 in
theorem tail3 {g c N f : Nat} {p q x y X1 X2 Y1 Y2 : List Int} {a m b s en mid : Nat} {M1 : List Int} (wr : World) (hNb : N ≤ 1000000) (IH : Hid (SymAt w0 ps ok key B g c N f)) (HFINAL : Hid (∀ z1 z2, Mrg key X1 Y1 z1 → Mrg key X2 Y2 z2 → Mrg key x y (z1 ++ z2)))
    (HOX1 : Hid (∀ v ∈ X1, ok v)) (HOX2 : Hid (∀ v ∈ X2, ok v)) (HOY1 : Hid (∀ v ∈ Y1, ok v)) (HOY2 : Hid (∀ v ∈ Y2, ok v)) (HSX1 : Hid (Srt key X1)) (HSX2 : Hid (Srt key X2)) (HSY1 : Hid (Srt key Y1)) (HSY2 : Hid (Srt key Y2))
    (HNL : Hid (N = (p ++ X1 ++ X2 ++ Y1 ++ Y2 ++ q).length)) (HMID2 : Hid (mid + mid ≤ a + b ∧ a + b ≤ mid + mid + 1)) (ham : a + 2 ≤ m) (hmb : m + 2 ≤ b) (hbN : b ≤ N)
    (hlens : Hid (a = p.length ∧ s = a + X1.length ∧ m = s + X2.length ∧ en = m + Y1.length ∧ b = en + Y2.length ∧ mid = s + Y1.length ∧ en = mid + X2.length ∧ X1.length + X2.length + (Y1.length + Y2.length) ≤ f + 1 ∧ 0 < X1.length + X2.length ∧ 0 < Y1.length + Y2.length))
    (hensN1 : en ≤ N) (hensN2 : s ≤ N) (hmN1 : mid ≤ N) (hM1 : Hid (Mrg key X1 Y1 M1)) (z5 z6 z7 z8 z9 z10 z11 z12 z13 z14 z15 z16 z17 z19 z21 z22 z23 z25 z26 z27 z28 z29 z30 z31 z32 z33 z34 z35 z36 z37 z38 z39 z40 z41 z42 z43 z44 z45 z46 z47 z48 z49 z50 z51 z52 z53 z54 z55 z56 z57 z58 z59 z60 z61 z62 z63 z64 z65 z66 z67 z68 z69 z70 z71 z72 z73 z74 z75 z76 z77 z78 z79 z80 z81 z82 z83 z84 z85 z86 z87 z88 z89 z90 z91 z92 z93 z94 z95 z96 z97 z98 z99 z100 z101 z102 z103 z104 z105 z106 z107 z108 z109 z110 z111 z112 z113 z114 z115 z116 z117 z118 z119 z120 z121 z122 z123 z124 z125 z126 z127 z128 z129 z130 z131 z132 z133 z134 z135 z136 z137 z138 z139 z140 z141 z142 z143 z144 z145 z146 z147 z148 z149 z150 z151 z152 z153 z154 z155 z156 z157 z158 z159 z160 z161 z162 z163 z164 z165 z166 z167 z168 z169 z170 z171 z172 z173 z174 z175 z176 z177 z178 z179 z180 z181 z182 z183 z184 z185 z186 z187 z188 z189 z190 z191 z192 z193 z194 z195 z196 z197 z198 z199 z200 z201 z202 z203 z204 z205 z206 z207 z208 z209 z210 z211 z212 z213 z214 z215 z216 z217 z218 z219 : Value)
    (H : Own w0 wr (slc 3 1 (.slice (some ⟨g, 0, none⟩) N c) N (rows ie (p ++ M1 ++ X2 ++ Y2 ++ q)) :: ps)) :
    Code.wp Try.prog (symTail 43) (bodyPost Try.prog Try.f50 (Ret fun _ w' => ∃ z, Mrg key x y z ∧ Own w0 w' (slc 3 1 (.slice (some ⟨g, 0, none⟩) N c) N (rows ie (p ++ z ++ q)) :: ps))) ⟨#[.slice (some ⟨g, 0, none⟩) N c, .int .i64 a, .int .i64 m, .int .i64 b, cf B, z5, z6, z7, z8, z9, z10, z11, z12, z13, z14, z15, z16, z17, .int .i64 mid, z19, .int .i64 s, z21, z22, z23, .int .i64 en, z25, z26, z27, z28, z29, z30, z31, z32, z33, z34, z35, z36, z37, z38, z39, z40, z41, z42, z43, z44, z45, z46, z47, z48, z49, z50, z51, z52, z53, z54, z55, z56, z57, z58, z59, z60, z61, z62, z63, z64, z65, z66, z67, z68, z69, z70, z71, z72, z73, z74, z75, z76, z77, z78, z79, z80, z81, z82, z83, z84, z85, z86, z87, z88, z89, z90, z91, z92, z93, z94, z95, z96, z97, z98, z99, z100, z101, z102, z103, z104, z105, z106, z107, z108, z109, z110, z111, z112, z113, z114, z115, z116, z117, z118, z119, z120, z121, z122, z123, z124, z125, z126, z127, z128, z129, z130, z131, z132, z133, z134, z135, z136, z137, z138, z139, z140, z141, z142, z143, z144, z145, z146, z147, z148, z149, z150, z151, z152, z153, z154, z155, z156, z157, z158, z159, z160, z161, z162, z163, z164, z165, z166, z167, z168, z169, z170, z171, z172, z173, z174, z175, z176, z177, z178, z179, z180, z181, z182, z183, z184, z185, z186, z187, z188, z189, z190, z191, z192, z193, z194, z195, z196, z197, z198, z199, z200, z201, z202, z203, z204, z205, z206, z207, z208, z209, z210, z211, z212, z213, z214, z215, z216, z217, z218, z219], []⟩ wr := by
  conv => arg 2; whnf
  dsimp only
  have hM1l : Hid (M1.length = X1.length + Y1.length) := Lib.hid (by rw [← hM1.out.2.length, List.length_append])
  have hNL3 : Hid (N = (p ++ M1 ++ X2 ++ Y2 ++ q).length) := Lib.hid (by rw [HNL.out]; have := hM1l.out; simp only [List.length_append]; omega)
  obtain ⟨t3, ht3⟩ : ∃ t, Hid ((decide (mid < en) && decide (en < b)) = t) := ⟨_, Lib.hid rfl⟩
  go_upto_region 43 with (fail)
  go_cut [213] (fun s1 wx => s1 = .bool t3 ∧ Own w0 wx (slc 3 1 (.slice (some ⟨g, 0, none⟩) N c) N (rows ie (p ++ M1 ++ X2 ++ Y2 ++ q)) :: ps))
  case first =>
    by_cases h1 : mid < en
    · by_cases h2 : en < b
      · have e : Hid (t3 = true) := Lib.hid (by rw [← ht3.out]; simp [h1, h2])
        go_wp2
        go_meet
        exact ⟨by rw [e.out], H⟩
      · have e : Hid (t3 = false) := Lib.hid (by rw [← ht3.out]; simp [h2])
        go_wp2
        go_meet
        exact ⟨by rw [e.out], H⟩
    · have e : Hid (t3 = false) := Lib.hid (by rw [← ht3.out]; simp [h1])
      go_wp2
      go_meet
      exact ⟨by rw [e.out], H⟩
  case rest =>
  clear H
  obtain ⟨rfl, H⟩ := hcut
  obtain ⟨l1, l2, l3, l4, l5, l6, l7, l8, l9, l10⟩ := hlens.out
  have hM1l' := hM1l.out
  have hm2 := HMID2.out
  cases t3 with
  | true =>
    have h := ht3.out
    simp only [Bool.and_eq_true, decide_eq_true_eq] at h
    have e1 : p ++ M1 ++ X2 ++ Y2 ++ q = (p ++ M1) ++ X2 ++ Y2 ++ q := by simp
    have hr := IH.out wc (p ++ M1) X2 Y2 q mid en b (by omega) HOX2.out HOY2.out HSX2.out HSY2.out (by rw [List.length_append]; omega) l7 l5 (by omega) (by omega) (by rw [← e1]; exact hNL3.out) (by rw [← e1]; exact H)
    have HR := Lib.hid hr
    clear hr l1 l2 l3 l4 l5 l6 l7 l8 l9 l10 h e1 hM1l' hm2
    go_wp2_with fail
    refine HR.out.mono ?_
    rintro e w3 ⟨_, rfl, z, hz, H3⟩
    clear HR H
    go_wp2
    go_end0
    exact ⟨_, rfl, M1 ++ z, HFINAL.out _ _ hM1.out hz, by simpa using H3⟩
  | false =>
    have h := ht3.out
    simp only [Bool.and_eq_false_iff, decide_eq_false_iff_not] at h
    have e1 : Hid (Mrg key X2 Y2 (X2 ++ Y2)) := Lib.hid (by
      rcases h with h | h
      · have : X2 = [] := List.eq_nil_of_length_eq_zero (by omega)
        rw [this]; exact Mrg.right HSY2.out
      · have : Y2 = [] := List.eq_nil_of_length_eq_zero (by omega)
        rw [this, List.append_nil]; exact Mrg.left HSX2.out)
    clear l1 l2 l3 l4 l5 l6 l7 l8 l9 l10 h hM1l' hm2
    go_wp2
    go_end0
    exact ⟨_, rfl, M1 ++ (X2 ++ Y2), HFINAL.out _ _ hM1.out e1.out, by simpa using H⟩

set_option maxRecDepth 1000000 in
set_option maxHeartbeats 12800000 in
theorem tail2 {g c N f : Nat} {p q x y X1 X2 Y1 Y2 : List Int} {a m b s en mid : Nat} (wr : World) (hNb : N ≤ 1000000) (IH : Hid (SymAt w0 ps ok key B g c N f)) (HFINAL : Hid (∀ z1 z2, Mrg key X1 Y1 z1 → Mrg key X2 Y2 z2 → Mrg key x y (z1 ++ z2)))
    (HOX1 : Hid (∀ v ∈ X1, ok v)) (HOX2 : Hid (∀ v ∈ X2, ok v)) (HOY1 : Hid (∀ v ∈ Y1, ok v)) (HOY2 : Hid (∀ v ∈ Y2, ok v)) (HSX1 : Hid (Srt key X1)) (HSX2 : Hid (Srt key X2)) (HSY1 : Hid (Srt key Y1)) (HSY2 : Hid (Srt key Y2))
    (HNL : Hid (N = (p ++ X1 ++ X2 ++ Y1 ++ Y2 ++ q).length)) (HMID2 : Hid (mid + mid ≤ a + b ∧ a + b ≤ mid + mid + 1)) (ham : a + 2 ≤ m) (hmb : m + 2 ≤ b) (hbN : b ≤ N)
    (hlens : Hid (a = p.length ∧ s = a + X1.length ∧ m = s + X2.length ∧ en = m + Y1.length ∧ b = en + Y2.length ∧ mid = s + Y1.length ∧ en = mid + X2.length ∧ X1.length + X2.length + (Y1.length + Y2.length) ≤ f + 1 ∧ 0 < X1.length + X2.length ∧ 0 < Y1.length + Y2.length))
    (hensN1 : en ≤ N) (hensN2 : s ≤ N) (hmN1 : mid ≤ N) (z5 z6 z7 z8 z9 z10 z11 z12 z13 z14 z15 z16 z17 z19 z21 z22 z23 z25 z26 z27 z28 z29 z30 z31 z32 z33 z34 z35 z36 z37 z38 z39 z40 z41 z42 z43 z44 z45 z46 z47 z48 z49 z50 z51 z52 z53 z54 z55 z56 z57 z58 z59 z60 z61 z62 z63 z64 z65 z66 z67 z68 z69 z70 z71 z72 z73 z74 z75 z76 z77 z78 z79 z80 z81 z82 z83 z84 z85 z86 z87 z88 z89 z90 z91 z92 z93 z94 z95 z96 z97 z98 z99 z100 z101 z102 z103 z104 z105 z106 z107 z108 z109 z110 z111 z112 z113 z114 z115 z116 z117 z118 z119 z120 z121 z122 z123 z124 z125 z126 z127 z128 z129 z130 z131 z132 z133 z134 z135 z136 z137 z138 z139 z140 z141 z142 z143 z144 z145 z146 z147 z148 z149 z150 z151 z152 z153 z154 z155 z156 z157 z158 z159 z160 z161 z162 z163 z164 z165 z166 z167 z168 z169 z170 z171 z172 z173 z174 z175 z176 z177 z178 z179 z180 z181 z182 z183 z184 z185 z186 z187 z188 z189 z190 z191 z192 z193 z194 z195 z196 z197 z198 z199 z200 z201 z202 z203 z204 z205 z206 z207 z208 z209 z210 z211 z212 z213 z214 z215 z216 z217 z218 z219 : Value)
    (H : Own w0 wr (slc 3 1 (.slice (some ⟨g, 0, none⟩) N c) N (rows ie (p ++ X1 ++ Y1 ++ X2 ++ Y2 ++ q)) :: ps)) :
    Code.wp Try.prog (symTail 41) (bodyPost Try.prog Try.f50 (Ret fun _ w' => ∃ z, Mrg key x y z ∧ Own w0 w' (slc 3 1 (.slice (some ⟨g, 0, none⟩) N c) N (rows ie (p ++ z ++ q)) :: ps))) ⟨#[.slice (some ⟨g, 0, none⟩) N c, .int .i64 a, .int .i64 m, .int .i64 b, cf B, z5, z6, z7, z8, z9, z10, z11, z12, z13, z14, z15, z16, z17, .int .i64 mid, z19, .int .i64 s, z21, z22, z23, .int .i64 en, z25, z26, z27, z28, z29, z30, z31, z32, z33, z34, z35, z36, z37, z38, z39, z40, z41, z42, z43, z44, z45, z46, z47, z48, z49, z50, z51, z52, z53, z54, z55, z56, z57, z58, z59, z60, z61, z62, z63, z64, z65, z66, z67, z68, z69, z70, z71, z72, z73, z74, z75, z76, z77, z78, z79, z80, z81, z82, z83, z84, z85, z86, z87, z88, z89, z90, z91, z92, z93, z94, z95, z96, z97, z98, z99, z100, z101, z102, z103, z104, z105, z106, z107, z108, z109, z110, z111, z112, z113, z114, z115, z116, z117, z118, z119, z120, z121, z122, z123, z124, z125, z126, z127, z128, z129, z130, z131, z132, z133, z134, z135, z136, z137, z138, z139, z140, z141, z142, z143, z144, z145, z146, z147, z148, z149, z150, z151, z152, z153, z154, z155, z156, z157, z158, z159, z160, z161, z162, z163, z164, z165, z166, z167, z168, z169, z170, z171, z172, z173, z174, z175, z176, z177, z178, z179, z180, z181, z182, z183, z184, z185, z186, z187, z188, z189, z190, z191, z192, z193, z194, z195, z196, z197, z198, z199, z200, z201, z202, z203, z204, z205, z206, z207, z208, z209, z210, z211, z212, z213, z214, z215, z216, z217, z218, z219], []⟩ wr := by
  conv => arg 2; whnf
  dsimp only
  have hNL2 : Hid (N = (p ++ X1 ++ Y1 ++ X2 ++ Y2 ++ q).length) := Lib.hid (by rw [HNL.out]; simp only [List.length_append]; omega)
  obtain ⟨t2, ht2⟩ : ∃ t, Hid ((decide (a < s) && decide (s < mid)) = t) := ⟨_, Lib.hid rfl⟩
  go_upto_region 41 with (fail)
  go_cut [199] (fun s1 wx => s1 = .bool t2 ∧ Own w0 wx (slc 3 1 (.slice (some ⟨g, 0, none⟩) N c) N (rows ie (p ++ X1 ++ Y1 ++ X2 ++ Y2 ++ q)) :: ps))
  case first =>
    by_cases h1 : a < s
    · by_cases h2 : s < mid
      · have e : Hid (t2 = true) := Lib.hid (by rw [← ht2.out]; simp [h1, h2])
        go_wp2
        go_meet
        exact ⟨by rw [e.out], H⟩
      · have e : Hid (t2 = false) := Lib.hid (by rw [← ht2.out]; simp [h2])
        go_wp2
        go_meet
        exact ⟨by rw [e.out], H⟩
    · have e : Hid (t2 = false) := Lib.hid (by rw [← ht2.out]; simp [h1])
      go_wp2
      go_meet
      exact ⟨by rw [e.out], H⟩
  case rest =>
  clear H
  obtain ⟨rfl, H⟩ := hcut
  go_upto_if 199 with (fail)
  go_cut [] (fun wx => ∃ M1, Hid (Mrg key X1 Y1 M1) ∧ Own w0 wx (slc 3 1 (.slice (some ⟨g, 0, none⟩) N c) N (rows ie (p ++ M1 ++ X2 ++ Y2 ++ q)) :: ps))
  case first =>
    obtain ⟨l1, l2, l3, l4, l5, l6, l7, l8, l9, l10⟩ := hlens.out
    have hm2 := HMID2.out
    cases t2 with
    | true =>
      have h := ht2.out
      simp only [Bool.and_eq_true, decide_eq_true_eq] at h
      have e1 : p ++ X1 ++ Y1 ++ X2 ++ Y2 ++ q = p ++ X1 ++ Y1 ++ (X2 ++ Y2 ++ q) := by simp
      have hr := IH.out wc p X1 Y1 (X2 ++ Y2 ++ q) a s mid (by omega) HOX1.out HOY1.out HSX1.out HSY1.out l1 l2 l6 (by omega) (by omega) (by rw [← e1]; exact hNL2.out) (by rw [← e1]; exact H)
      have HR := Lib.hid hr
      clear hr l1 l2 l3 l4 l5 l6 l7 l8 l9 l10 h e1 hm2
      go_wp2_with fail
      refine HR.out.mono ?_
      rintro e w3 ⟨_, rfl, z, hz, H3⟩
      clear HR H
      go_wp2
      go_meet
      exact ⟨z, Lib.hid hz, by simpa using H3⟩
    | false =>
      have h := ht2.out
      simp only [Bool.and_eq_false_iff, decide_eq_false_iff_not] at h
      have e1 : Hid (Mrg key X1 Y1 (X1 ++ Y1)) := Lib.hid (by
        rcases h with h | h
        · have : X1 = [] := List.eq_nil_of_length_eq_zero (by omega)
          rw [this]; exact Mrg.right HSY1.out
        · have : Y1 = [] := List.eq_nil_of_length_eq_zero (by omega)
          rw [this, List.append_nil]; exact Mrg.left HSX1.out)
      clear l1 l2 l3 l4 l5 l6 l7 l8 l9 l10 h hm2
      go_wp2
      go_meet
      exact ⟨X1 ++ Y1, e1, by simpa using H⟩
  case rest =>
  clear H
  obtain ⟨M1, hM1, H⟩ := hcut
  apply_assumption
  exact tail3 (p := p) (q := q) (x := x) (y := y) (X1 := X1) (X2 := X2) (Y1 := Y1) (Y2 := Y2) (a := a) (m := m) (b := b) (s := s) (en := en) (mid := mid) (M1 := M1) wc hNb IH HFINAL HOX1 HOX2 HOY1 HOY2 HSX1 HSX2 HSY1 HSY2 HNL HMID2 ham hmb hbN hlens hensN1 hensN2 hmN1 hM1 _ _ _ _ _ _ _ _ _ _ _ _ _ _ _ _ _ _ _ _ _ _ _ _ _ _ _ _ _ _ _ _ _ _ _ _ _ _ _ _ _ _ _ _ _ _ _ _ _ _ _ _ _ _ _ _ _ _ _ _ _ _ _ _ _ _ _ _ _ _ _ _ _ _ _ _ _ _ _ _ _ _ _ _ _ _ _ _ _ _ _ _ _ _ _ _ _ _ _ _ _ _ _ _ _ _ _ _ _ _ _ _ _ _ _ _ _ _ _ _ _ _ _ _ _ _ _ _ _ _ _ _ _ _ _ _ _ _ _ _ _ _ _ _ _ _ _ _ _ _ _ _ _ _ _ _ _ _ _ _ _ _ _ _ _ _ _ _ _ _ _ _ _ _ _ _ _ _ _ _ _ _ _ _ _ _ _ _ _ _ _ _ _ _ _ _ _ _ _ _ _ _ _ _ _ _ _ _ _ _ _ _ H

set_option maxRecDepth 1000000 in
set_option maxHeartbeats 12800000 in
theorem tail_any {g c N f : Nat} {p q x y X1 X2 Y1 Y2 : List Int} {a m b s en mid : Nat} {n : Nat} (wr : World) (hNb : N ≤ 1000000) (IH : Hid (SymAt w0 ps ok key B g c N f)) (HFINAL : Hid (∀ z1 z2, Mrg key X1 Y1 z1 → Mrg key X2 Y2 z2 → Mrg key x y (z1 ++ z2)))
    (HOX1 : Hid (∀ v ∈ X1, ok v)) (HOX2 : Hid (∀ v ∈ X2, ok v)) (HOY1 : Hid (∀ v ∈ Y1, ok v)) (HOY2 : Hid (∀ v ∈ Y2, ok v)) (HSX1 : Hid (Srt key X1)) (HSX2 : Hid (Srt key X2)) (HSY1 : Hid (Srt key Y1)) (HSY2 : Hid (Srt key Y2))
    (HNL : Hid (N = (p ++ X1 ++ X2 ++ Y1 ++ Y2 ++ q).length)) (HMID2 : Hid (mid + mid ≤ a + b ∧ a + b ≤ mid + mid + 1)) (ham : a + 2 ≤ m) (hmb : m + 2 ≤ b) (hbN : b ≤ N)
    (hlens : Hid (a = p.length ∧ s = a + X1.length ∧ m = s + X2.length ∧ en = m + Y1.length ∧ b = en + Y2.length ∧ mid = s + Y1.length ∧ en = mid + X2.length ∧ X1.length + X2.length + (Y1.length + Y2.length) ≤ f + 1 ∧ 0 < X1.length + X2.length ∧ 0 < Y1.length + Y2.length))
    (hensN1 : en ≤ N) (hensN2 : s ≤ N) (hmN1 : mid ≤ N) (henI : ((n : Int) - (s : Int)) = (en : Int)) (hsn : s ≤ n) (hmN2 : n ≤ 2 * N) (z5 z6 z7 z8 z9 z10 z11 z12 z13 z14 z15 z16 z17 z21 z22 z23 z24 z25 z26 z27 z28 z29 z30 z31 z32 z33 z34 z35 z36 z37 z38 z39 z40 z41 z42 z43 z44 z45 z46 z47 z48 z49 z50 z51 z52 z53 z54 z55 z56 z57 z58 z59 z60 z61 z62 z63 z64 z65 z66 z67 z68 z69 z70 z71 z72 z73 z74 z75 z76 z77 z78 z79 z80 z81 z82 z83 z84 z85 z86 z87 z88 z89 z90 z91 z92 z93 z94 z95 z96 z97 z98 z99 z100 z101 z102 z103 z104 z105 z106 z107 z108 z109 z110 z111 z112 z113 z114 z115 z116 z117 z118 z119 z120 z121 z122 z123 z124 z125 z126 z127 z128 z129 z130 z131 z132 z133 z134 z135 z136 z137 z138 z139 z140 z141 z142 z143 z144 z145 z146 z147 z148 z149 z150 z151 z152 z153 z154 z155 z156 z157 z158 z159 z160 z161 z162 z163 z164 z165 z166 z167 z168 z169 z170 z171 z172 z173 z174 z175 z176 z177 z178 z179 z180 z181 z182 z183 z184 z185 z186 z187 z188 z189 z190 z191 z192 z193 z194 z195 z196 z197 z198 z199 z200 z201 z202 z203 z204 z205 z206 z207 z208 z209 z210 z211 z212 z213 z214 z215 z216 z217 z218 z219 : Value)
    (H : Own w0 wr (slc 3 1 (.slice (some ⟨g, 0, none⟩) N c) N (rows ie (p ++ X1 ++ X2 ++ Y1 ++ Y2 ++ q)) :: ps)) :
    Code.wp Try.prog (symTail 38) (bodyPost Try.prog Try.f50 (Ret fun _ w' => ∃ z, Mrg key x y z ∧ Own w0 w' (slc 3 1 (.slice (some ⟨g, 0, none⟩) N c) N (rows ie (p ++ z ++ q)) :: ps))) ⟨#[.slice (some ⟨g, 0, none⟩) N c, .int .i64 a, .int .i64 m, .int .i64 b, cf B, z5, z6, z7, z8, z9, z10, z11, z12, z13, z14, z15, z16, z17, .int .i64 mid, .int .i64 n, .int .i64 s, z21, z22, z23, z24, z25, z26, z27, z28, z29, z30, z31, z32, z33, z34, z35, z36, z37, z38, z39, z40, z41, z42, z43, z44, z45, z46, z47, z48, z49, z50, z51, z52, z53, z54, z55, z56, z57, z58, z59, z60, z61, z62, z63, z64, z65, z66, z67, z68, z69, z70, z71, z72, z73, z74, z75, z76, z77, z78, z79, z80, z81, z82, z83, z84, z85, z86, z87, z88, z89, z90, z91, z92, z93, z94, z95, z96, z97, z98, z99, z100, z101, z102, z103, z104, z105, z106, z107, z108, z109, z110, z111, z112, z113, z114, z115, z116, z117, z118, z119, z120, z121, z122, z123, z124, z125, z126, z127, z128, z129, z130, z131, z132, z133, z134, z135, z136, z137, z138, z139, z140, z141, z142, z143, z144, z145, z146, z147, z148, z149, z150, z151, z152, z153, z154, z155, z156, z157, z158, z159, z160, z161, z162, z163, z164, z165, z166, z167, z168, z169, z170, z171, z172, z173, z174, z175, z176, z177, z178, z179, z180, z181, z182, z183, z184, z185, z186, z187, z188, z189, z190, z191, z192, z193, z194, z195, z196, z197, z198, z199, z200, z201, z202, z203, z204, z205, z206, z207, z208, z209, z210, z211, z212, z213, z214, z215, z216, z217, z218, z219], []⟩ wr := by
  conv => arg 2; whnf
  dsimp only
  obtain ⟨t1, ht1⟩ : ∃ t, Hid ((decide (s < m) && decide (m < en)) = t) := ⟨_, Lib.hid rfl⟩
  go_upto_region 39 with (fail)
  go_cut [185] (fun s1 wx => s1 = .bool t1 ∧ Own w0 wx (slc 3 1 (.slice (some ⟨g, 0, none⟩) N c) N (rows ie (p ++ X1 ++ X2 ++ Y1 ++ Y2 ++ q)) :: ps))
  case first =>
    by_cases h1 : s < m
    · by_cases h2 : m < en
      · have e : Hid (t1 = true) := Lib.hid (by rw [← ht1.out]; simp [h1, h2])
        go_wp2
        go_meet
        exact ⟨by rw [e.out], H⟩
      · have e : Hid (t1 = false) := Lib.hid (by rw [← ht1.out]; simp [h2])
        go_wp2
        go_meet
        exact ⟨by rw [e.out], H⟩
    · have e : Hid (t1 = false) := Lib.hid (by rw [← ht1.out]; simp [h1])
      go_wp2
      go_meet
      exact ⟨by rw [e.out], H⟩
  case rest =>
  clear H
  obtain ⟨rfl, H⟩ := hcut
  go_upto_if 185 with (fail)
  go_cut [] (fun wx => Own w0 wx (slc 3 1 (.slice (some ⟨g, 0, none⟩) N c) N (rows ie (p ++ X1 ++ Y1 ++ X2 ++ Y2 ++ q)) :: ps))
  case first =>
    obtain ⟨l1, l2, l3, l4, l5, l6, l7, l8, l9, l10⟩ := hlens.out
    cases t1 with
    | true =>
      have h := ht1.out
      simp only [Bool.and_eq_true, decide_eq_true_eq] at h
      have e1 : p ++ X1 ++ X2 ++ Y1 ++ Y2 ++ q = (p ++ X1) ++ X2 ++ Y1 ++ (Y2 ++ q) := by simp
      have hr := rotate_any (w0 := w0) (w := wc) (ps := ps) (g := g) (c := c) (N := N) (p := p ++ X1) (x := X2) (y := Y1) (q := Y2 ++ q) (a := s) (m := m) (b := en) (cf B) (by rw [List.length_append]; omega) l3 l4 (by omega) (by omega) (by rw [← e1]; exact HNL.out) hNb (by rw [← e1]; exact H)
      have HR := Lib.hid hr
      clear hr l1 l2 l3 l4 l5 l6 l7 l8 l9 l10 h e1
      go_wp2_with fail
      refine HR.out.mono ?_
      rintro e w3 ⟨_, rfl, H3⟩
      clear HR H
      go_wp2
      go_meet
      simpa using H3
    | false =>
      have h := ht1.out
      simp only [Bool.and_eq_false_iff, decide_eq_false_iff_not] at h
      have e1 : p ++ X1 ++ X2 ++ Y1 ++ Y2 ++ q = p ++ X1 ++ Y1 ++ X2 ++ Y2 ++ q := by
        rcases h with h | h
        · have : X2 = [] := List.eq_nil_of_length_eq_zero (by omega)
          rw [this]; simp
        · have : Y1 = [] := List.eq_nil_of_length_eq_zero (by omega)
          rw [this]; simp
      rw [e1] at H
      clear l1 l2 l3 l4 l5 l6 l7 l8 l9 l10 h e1
      go_wp2
      go_meet
      exact H
  case rest =>
  clear H
  have H := hcut
  clear hcut
  apply_assumption
  exact tail2 (p := p) (q := q) (x := x) (y := y) (X1 := X1) (X2 := X2) (Y1 := Y1) (Y2 := Y2) (a := a) (m := m) (b := b) (s := s) (en := en) (mid := mid) wc hNb IH HFINAL HOX1 HOX2 HOY1 HOY2 HSX1 HSX2 HSY1 HSY2 HNL HMID2 ham hmb hbN hlens hensN1 hensN2 hmN1 _ _ _ _ _ _ _ _ _ _ _ _ _ _ _ _ _ _ _ _ _ _ _ _ _ _ _ _ _ _ _ _ _ _ _ _ _ _ _ _ _ _ _ _ _ _ _ _ _ _ _ _ _ _ _ _ _ _ _ _ _ _ _ _ _ _ _ _ _ _ _ _ _ _ _ _ _ _ _ _ _ _ _ _ _ _ _ _ _ _ _ _ _ _ _ _ _ _ _ _ _ _ _ _ _ _ _ _ _ _ _ _ _ _ _ _ _ _ _ _ _ _ _ _ _ _ _ _ _ _ _ _ _ _ _ _ _ _ _ _ _ _ _ _ _ _ _ _ _ _ _ _ _ _ _ _ _ _ _ _ _ _ _ _ _ _ _ _ _ _ _ _ _ _ _ _ _ _ _ _ _ _ _ _ _ _ _ _ _ _ _ _ _ _ _ _ _ _ _ _ _ _ _ _ _ _ _ _ _ _ _ _ H
end
end SI
end Go.Proofs.Ytfeamlbkogigkaa
