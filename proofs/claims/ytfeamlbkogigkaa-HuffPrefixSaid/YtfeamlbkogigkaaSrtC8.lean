/-
  The stable sort of slices of coins: the walk of stable. (Written by tools/srt.py.)
-/
import Derived.Test.YtfeamlbkogigkaaSrtC7
import Derived.Test.YtfeamlbkogigkaaSrtQ
namespace Go.Proofs.Ytfeamlbkogigkaa
open Go.RowKit
namespace SC
section
variable {w0 w : World} {ps : List Piece} {ok : Coin → Prop} {key : Coin → Int} {B : Nat}
set_option maxRecDepth 100000 in
set_option maxHeartbeats 6400000 in
theorem stable_any {g c N : Nat} {l : List Coin} (hcmp : Cmps w0 ps B ok key) (hok : ∀ x ∈ l, ok x) (hN : N = l.length) (hNb : N ≤ 1000000)
    (H : Own w0 w (slc 65 2 (.slice (some ⟨g, 0, none⟩) N c) N (rows ce l) :: ps)) :
    Calls Try.prog 51 #[.slice (some ⟨g, 0, none⟩) N c, .int .i64 N, cf B] w (Ret fun _ w' => Own w0 w' (slc 65 2 (.slice (some ⟨g, 0, none⟩) N c) N (rows ce (sortF key l)) :: ps)) := by
  have HN := Lib.hid hN
  have HC := Lib.hid hcmp
  have HOK := Lib.hid hok
  clear hN hcmp hok
  go_enter Try.func51, Try.ntmps51
  go_upto_block 0 with (fail)
  go_cut [7] (fun s7 wx => ∃ (a : Nat) (P R : List Coin), s7 = .int .i64 a ∧ a ≤ N ∧ N < a + 20 ∧ Hid (P.length = a) ∧ Hid (StEq key l (P ++ R)) ∧ Hid (FullC key 20 P) ∧ Own w0 wx (slc 65 2 (.slice (some ⟨g, 0, none⟩) N c) N (rows ce (P ++ R)) :: ps))
  case first =>
    go_wp2_with fail
    go_loopw [7, 8] (fun s7 s8 wx => ∃ (a : Nat) (P R : List Coin), s7 = .int .i64 a ∧ s8 = .int .i64 ((a : Int) + 20) ∧ a ≤ N ∧ Hid (P.length = a) ∧ Hid (StEq key l (P ++ R)) ∧ Hid (FullC key 20 P) ∧ Own w0 wx (slc 65 2 (.slice (some ⟨g, 0, none⟩) N c) N (rows ce (P ++ R)) :: ps)) (fun s7 _ _ => N - (intOf s7).toNat)
    case atStart => exact ⟨0, [], l, rfl, by go_num, by omega, Lib.hid rfl, Lib.hid (StEq.refl _), Lib.hid .nil, by simpa using H⟩
    case round =>
      clear H
      obtain ⟨a, P, R, rfl, rfl, ha, hP, hl, hF, H⟩ := hrel
      have hlen : Hid (P.length + R.length = N) := Lib.hid (by have := hl.out.length; rw [List.length_append] at this; have := HN.out; omega)
      by_cases hab : a + 20 ≤ N
      · obtain ⟨S, R2, hRs, hS⟩ := split_at R 20 (by have := hlen.out; have := hP.out; omega)
        subst hRs
        have e1 : P ++ (S ++ R2) = P ++ S ++ R2 := by simp
        rw [e1] at H
        obtain ⟨bn, hbn⟩ : ∃ bn, bn = a + 20 := ⟨_, rfl⟩
        have hbI : ((a : Int) + 20) = (bn : Int) := by omega
        have hbN : (bn : Int) ≤ (N : Int) := by omega
        have hNl : N = (P ++ S ++ R2).length := by rw [← e1, List.length_append]; exact hlen.out.symm
        have hi := insert_any (p := P) (s := S) (q := R2) (a := a) (b := bn) HC.out (fun v hv => HOK.out v (hl.out.symm.mem (by simp [hv]))) hP.out.symm (by omega) hNl hNb H
        have HI := Lib.hid hi
        have hbn2 : Hid (bn = a + 20) := Lib.hid hbn
        have hb20 : a + 20 ≤ bn := by omega
        have hbN2 : bn ≤ N := by omega
        have HS := Lib.hid hS
        clear hi hbn hNl e1 hab hlen hS
        go_wp2_with fail
        refine HI.out.mono ?_
        rintro e w3 ⟨_, rfl, s', hs', he', H3⟩
        have hsl : s'.length = 20 := by rw [← he'.length]; exact HS.out
        have hl2 : Hid (StEq key l ((P ++ s') ++ R2)) := Lib.hid (hl.out.trans (by
          have := ((StEq.refl (key := key) P).app he').app (StEq.refl R2)
          simpa using this))
        have hF2 : Hid (FullC key 20 (P ++ s')) := Lib.hid (hF.out.snoc hsl hs')
        have hP2 : Hid ((P ++ s').length = bn) := Lib.hid (by rw [List.length_append, hsl, hP.out]; exact hbn2.out.symm)
        clear HI H he' hs' hsl
        go_wp2
        go_roundw
        case rel => exact ⟨bn, P ++ s', R2, by go_num, by go_num, by omega, hP2, hl2, hF2, H3⟩
        case measure => simp [intOf]; omega
      · have hnb : ¬ ((a : Int) + 20 ≤ (N : Int)) := by omega
        go_wp2
        go_meet
        exact ⟨a, P, R, rfl, ha, by omega, hP, hl, hF, H⟩
  case rest =>
    clear H
    obtain ⟨a, P, R, rfl, ha, ha2, hP, hl, hF, H⟩ := hcut
    have hlen : Hid (P.length + R.length = N) := Lib.hid (by have := hl.out.length; rw [List.length_append] at this; have := HN.out; omega)
    have e1 : P ++ R = P ++ R ++ [] := by simp
    rw [e1] at H
    have hNl : N = (P ++ R ++ []).length := by rw [← e1, List.length_append]; exact hlen.out.symm
    have hi := insert_any (p := P) (s := R) (q := []) (a := a) (b := N) HC.out (fun v hv => HOK.out v (hl.out.symm.mem (by simp [hv]))) hP.out.symm (by have := hlen.out; have := hP.out; omega) hNl hNb H
    have HI := Lib.hid hi
    clear hi hNl e1
    go_upto_region 6 with (fail)
    go_wp2_with fail
    refine HI.out.mono ?_
    rintro e w3 ⟨_, rfl, R', hs', he', H3⟩
    have hRl : Hid (R'.length + a = N) := Lib.hid (by rw [← he'.length]; have := hlen.out; have := hP.out; omega)
    have hl2 : Hid (StEq key l (P ++ R')) := Lib.hid (hl.out.trans ((StEq.refl (key := key) P).app he'))
    rw [List.append_nil] at H3
    have HS' := Lib.hid hs'
    clear HI H he' hs' hlen hl
    go_wp2_with fail
    go_loopw [6] (fun s6 wx => ∃ (bs : Nat) (P R : List Coin), s6 = .int .i64 bs ∧ 20 ≤ bs ∧ bs ≤ 2 * N + 20 ∧ Hid (StEq key l (P ++ R)) ∧ Hid (FullC key bs P) ∧ Hid (Srt key R) ∧ Hid (R.length < bs) ∧ Own w0 wx (slc 65 2 (.slice (some ⟨g, 0, none⟩) N c) N (rows ce (P ++ R)) :: ps)) (fun s6 _ => 2 * N + 21 - (intOf s6).toNat)
    case atStart => exact ⟨20, P, R', by go_num, by omega, by omega, hl2, hF, HS', Lib.hid (by have := hRl.out; omega), H3⟩
    case round =>
      clear H3 hl2 hF HS' hRl hP ha ha2
      obtain ⟨bs, P, R, rfl, hb1, hb2, hl, hF, hS, hRb, H⟩ := hrel
      have hlen : Hid (P.length + R.length = N) := Lib.hid (by have := hl.out.length; rw [List.length_append] at this; have := HN.out; omega)
      by_cases hbN : bs < N
      · have hbNI : (bs : Int) < (N : Int) := by omega
        obtain ⟨b2, hb2'⟩ : ∃ b2, b2 = 2 * bs := ⟨_, rfl⟩
        have hb2I : (2 * (bs : Int)) = (b2 : Int) := by omega
        have hb2J : ((bs : Int) * 2) = (b2 : Int) := by omega
        have HB2 := Lib.hid hb2'
        have hb2b : bs + bs ≤ b2 ∧ b2 ≤ bs + bs := ⟨by omega, by omega⟩
        obtain ⟨hb2b1, hb2b2⟩ := hb2b
        clear hb2'
        go_upto_block 4 with (fail)
        go_cut [7] (fun s7 wx => ∃ (a : Nat) (P2 P1 : List Coin), s7 = .int .i64 a ∧ a ≤ N ∧ N < a + b2 ∧ Hid (P2.length = a) ∧ Hid (StEq key l (P2 ++ P1 ++ R)) ∧ Hid (FullC key b2 P2) ∧ Hid (FullC key bs P1) ∧ Own w0 wx (slc 65 2 (.slice (some ⟨g, 0, none⟩) N c) N (rows ce (P2 ++ P1 ++ R)) :: ps))
        case first =>
          go_wp2_with fail
          go_loopw [7, 8] (fun s7 s8 wx => ∃ (a : Nat) (P2 P1 : List Coin), s7 = .int .i64 a ∧ s8 = .int .i64 ((a : Int) + b2) ∧ a ≤ N ∧ Hid (P2.length = a) ∧ Hid (StEq key l (P2 ++ P1 ++ R)) ∧ Hid (FullC key b2 P2) ∧ Hid (FullC key bs P1) ∧ Own w0 wx (slc 65 2 (.slice (some ⟨g, 0, none⟩) N c) N (rows ce (P2 ++ P1 ++ R)) :: ps)) (fun s7 _ _ => N - (intOf s7).toNat)
          case atStart => exact ⟨0, [], P, by go_num, by go_num, by omega, Lib.hid rfl, Lib.hid (by simpa using hl.out), Lib.hid .nil, hF, by simpa using H⟩
          case round =>
            clear H hl hF
            obtain ⟨a, P2, P1, rfl, rfl, ha, hP2, hl, hF2, hF1, H⟩ := hrel
            have hlen2 : Hid (P2.length + P1.length + R.length = N) := Lib.hid (by have := hl.out.length; rw [List.length_append, List.length_append] at this; have := HN.out; omega)
            by_cases hab : a + b2 ≤ N
            · obtain ⟨x, y, r, hP1, hx, hy, hsx, hsy, hFr⟩ := hF1.out.two (by have := hlen2.out; have := hP2.out; have := hRb.out; omega)
              subst hP1
              have e1 : P2 ++ (x ++ y ++ r) ++ R = P2 ++ x ++ y ++ (r ++ R) := by simp
              rw [e1] at H
              obtain ⟨mn, hmn⟩ : ∃ mn, mn = a + bs := ⟨_, rfl⟩
              obtain ⟨bn, hbn⟩ : ∃ bn, bn = a + b2 := ⟨_, rfl⟩
              have hmI : ((a : Int) + (bs : Int)) = (mn : Int) := by omega
              have hbI : ((a : Int) + (b2 : Int)) = (bn : Int) := by omega
              have hbnN : (bn : Int) ≤ (N : Int) := by omega
              have hNl : N = (P2 ++ x ++ y ++ (r ++ R)).length := by rw [← e1]; have := hl.out.length; rw [← this]; exact HN.out
              have hokx : ∀ v ∈ x, ok v := fun v hv => HOK.out v (hl.out.symm.mem (by simp [hv]))
              have hoky : ∀ v ∈ y, ok v := fun v hv => HOK.out v (hl.out.symm.mem (by simp [hv]))
              have hi := sym_any HC.out hNb (x.length + y.length) wr P2 x y (r ++ R) a mn bn (Nat.le_refl _) hokx hoky hsx hsy hP2.out.symm (by omega) (by omega) (by omega) (by omega) hNl H
              have HI := Lib.hid hi
              have HX := Lib.hid (And.intro hx hy)
              have HFr := Lib.hid hFr
              have hbn2 : Hid (bn = a + b2) := Lib.hid hbn
              have hbnN2 : bn ≤ N := by omega
              have habn : a + b2 ≤ bn := by omega
              clear hi hmn hbn hNl e1 hab hokx hoky hsx hsy hx hy hFr hlen2
              go_wp2_with fail
              refine HI.out.mono ?_
              rintro e w4 ⟨_, rfl, z, hz, H4⟩
              have hzl : z.length = b2 := by rw [← hz.2.length, List.length_append, HX.out.1, HX.out.2]; omega
              have hl3 : Hid (StEq key l ((P2 ++ z) ++ r ++ R)) := Lib.hid (hl.out.trans (by
                have := ((StEq.refl (key := key) P2).app hz.2).app (StEq.refl (r ++ R))
                simpa using this))
              have hF3 : Hid (FullC key b2 (P2 ++ z)) := Lib.hid (hF2.out.snoc hzl hz.1)
              have hP3 : Hid ((P2 ++ z).length = bn) := Lib.hid (by rw [List.length_append, hzl, hP2.out]; exact hbn2.out.symm)
              clear HI H hz hzl
              go_wp2
              go_roundw
              case rel => exact ⟨bn, P2 ++ z, r, by go_num, by go_num, by omega, hP3, hl3, hF3, HFr, by simpa using H4⟩
              case measure => simp [intOf]; omega
            · have hnb : ¬ ((a : Int) + (b2 : Int) ≤ (N : Int)) := by omega
              go_wp2
              go_meet
              exact ⟨a, P2, P1, rfl, ha, by omega, hP2, hl, hF2, hF1, H⟩
        case rest =>
          clear H hl hF
          obtain ⟨a, P2, P1, rfl, ha, hab, hP2, hl, hF2, hF1, H⟩ := hcut
          have hlen2 : Hid (P2.length + P1.length + R.length = N) := Lib.hid (by have := hl.out.length; rw [List.length_append, List.length_append] at this; have := HN.out; omega)
          obtain ⟨mn, hmn⟩ : ∃ mn, mn = a + bs := ⟨_, rfl⟩
          have hmI : ((a : Int) + (bs : Int)) = (mn : Int) := by omega
          have HMN := Lib.hid hmn
          have hmn2 : mn ≤ 4 * N + 40 := by omega
          clear hmn
          by_cases hmN : mn < N
          · have hmNI : (mn : Int) < (N : Int) := by omega
            obtain ⟨x, r, hP1, hx, hsx, hFr⟩ := hF1.out.front (by have := hlen2.out; have := hP2.out; have := hRb.out; have := HMN.out; omega)
            have hr0 : r = [] := by
              obtain ⟨q, hq⟩ := hFr.len
              have h1 := hlen2.out; have h2 := hP2.out
              rw [hP1, List.length_append] at h1
              rcases Nat.eq_zero_or_pos q with h | h
              · subst h; exact List.eq_nil_of_length_eq_zero (by omega)
              · have := Nat.mul_le_mul_right bs h; omega
            subst hr0
            rw [List.append_nil] at hP1
            subst hP1
            have e1 : P2 ++ P1 ++ R = P2 ++ P1 ++ R ++ [] := by simp
            rw [e1] at H
            have hNl : N = (P2 ++ P1 ++ R ++ []).length := by rw [← e1]; have := hl.out.length; rw [← this]; exact HN.out
            have hi := sym_any HC.out hNb (P1.length + R.length) wc P2 P1 R [] a mn N (Nat.le_refl _) (fun v hv => HOK.out v (hl.out.symm.mem (by simp [hv]))) (fun v hv => HOK.out v (hl.out.symm.mem (by simp [hv]))) hsx hS.out hP2.out.symm (by have := HMN.out; omega) (by have := hlen2.out; have := hP2.out; have := HMN.out; omega) (by omega) (by have := hlen2.out; have := hP2.out; have := HMN.out; omega) hNl H
            have HI := Lib.hid hi
            clear hi hNl e1 hsx hFr
            go_wp2_with fail
            refine HI.out.mono ?_
            rintro e w4 ⟨_, rfl, z, hz, H4⟩
            have hzl : Hid (z.length < b2) := Lib.hid (by rw [← hz.2.length, List.length_append, hx]; have := hRb.out; omega)
            have hl3 : Hid (StEq key l (P2 ++ z)) := Lib.hid (hl.out.trans (by
              have := (StEq.refl (key := key) P2).app hz.2
              simpa using this))
            have hzs : Hid (Srt key z) := Lib.hid hz.1
            rw [List.append_nil] at H4
            clear HI H hz hx
            go_wp2
            go_roundw
            case rel => exact ⟨b2, P2, z, by go_num, by omega, by omega, hl3, hF2, hzs, hzl, H4⟩
            case measure => simp [intOf]; omega
          · have hmNI : ¬ ((mn : Int) < (N : Int)) := by omega
            have hsrt : Hid (Srt key (P1 ++ R)) := Lib.hid (by
              rcases hF1.out.one (by have := hlen2.out; have := hP2.out; have := HMN.out; omega) (by omega) with h | ⟨h, hs⟩
              · rw [h]; exact hS.out
              · have : R = [] := List.eq_nil_of_length_eq_zero (by have := hlen2.out; have := hP2.out; have := HMN.out; omega)
                rw [this, List.append_nil]; exact hs)
            have hl3 : Hid (StEq key l (P2 ++ (P1 ++ R))) := Lib.hid (by simpa using hl.out)
            have hzl : Hid ((P1 ++ R).length < b2) := Lib.hid (by rw [List.length_append]; have := hlen2.out; have := hP2.out; omega)
            rw [List.append_assoc] at H
            clear hmN
            go_wp2
            go_roundw
            case rel => exact ⟨b2, P2, P1 ++ R, by go_num, by omega, by omega, hl3, hF2, hsrt, hzl, H⟩
            case measure => simp [intOf]; omega
      · have hsrt : Hid (P ++ R = sortF key l) := Lib.hid (by
          refine sortF_unique ?_ hl.out
          rcases hF.out.one (by have := hlen.out; omega) (by omega) with h | ⟨h, hs⟩
          · rw [h]; exact hS.out
          · have : R = [] := List.eq_nil_of_length_eq_zero (by have := hlen.out; omega)
            rw [this, List.append_nil]; exact hs)
        have hnb : ¬ ((bs : Int) < (N : Int)) := by omega
        clear hbN
        go_wp2
        go_end0
        exact ⟨_, rfl, by rw [← hsrt.out]; exact H⟩
end
end SC
end Go.Proofs.Ytfeamlbkogigkaa
