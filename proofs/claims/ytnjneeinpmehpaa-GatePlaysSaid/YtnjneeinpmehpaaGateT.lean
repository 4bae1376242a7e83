/-
  Gates: the walk of Through, and of GateThrough.
-/
import Derived.Test.YtnjneeinpmehpaaGateL
namespace Go.Proofs.Ytnjneeinpmehpaa
open Go.RowKit

theorem txs_append (a b : List ByteArray) : txs (a ++ b) = txs a ++ txs b := by simp [txs]
theorem txs_drop (a : List ByteArray) (k : Nat) : (txs a).drop k = txs (a.drop k) := by simp [txs]
theorem txs_one (a : List ByteArray) : ∀ u ∈ txs a, u.oneCell' = true := by
  intro u hu
  obtain ⟨s, _, rfl⟩ := List.mem_map.1 hu
  rfl

set_option maxHeartbeats 1600000 in
theorem through_any (size : Int) (L : List ByteArray) {v : Value} (w : World) (hr : Rd w 1 v L.length (txs L)) (hL : L.length ≤ 1000) :
    Calls Try.prog 14 #[.int .i64 size, v] w (Ret fun v w' => Own w w' [sld 9 1 v L.length (txs L)]) := by
  obtain ⟨a0, c0, rfl, ha1, ha2⟩ := hr.shape
  go_enter Try.func14, Try.ntmps14
  go_upto_region 2 with (fail)
  go_cut [6] (fun s6 wx => ∃ g cap : Nat, s6 = .pointer (some ⟨g, 0, none⟩) ∧ 1 ≤ cap ∧ Own w wx [Gt g cap [] false])
  case first =>
    by_cases h : size < 1
    · go_wp2_with fail
      refine (new_any _ (Own.start w)).mono ?_
      rintro e w1 ⟨_, rfl, g, rfl, H⟩
      go_wp2
      go_meet
      exact ⟨_, _, rfl, by unfold room; omega, H⟩
    · have h' : 1 ≤ size := by omega
      go_wp2_with fail
      refine (new_any _ (Own.start w)).mono ?_
      rintro e w1 ⟨_, rfl, g, rfl, H⟩
      go_wp2
      go_meet
      exact ⟨_, _, rfl, by unfold room; omega, H⟩
  case rest =>
    obtain ⟨g, cap, rfl, hcap, H⟩ := hcut
    go_wp2_with fail
    go_loopw [1, 5] (fun s1 s5 wr => ∃ l out q : List ByteArray, Hid (L = out ++ (q ++ l)) ∧ Rd w 1 s1 l.length (txs l) ∧ Own w wr [sld 9 1 s5 out.length (txs out), Gt g cap q false]) (fun _ s5 _ => L.length - sliceLen s5)
    case atStart => exact ⟨L, [], [], Lib.hid rfl, hr, H.dnil _ _⟩
    case round =>
      clear H hr ha1 ha2
      obtain ⟨l, out, q, hq, hr, H⟩ := hrel
      have hlen : out.length + (q.length + l.length) = L.length := by have := congrArg List.length hq.out; simp at this; omega
      obtain ⟨a1, c1, rfl, ha1, ha2⟩ := hr.shape
      by_cases hA : l.length = 0 ∧ q.length = 0
      · obtain ⟨hl0, hq0⟩ := hA
        obtain rfl := List.eq_nil_of_length_eq_zero hl0
        obtain rfl := List.eq_nil_of_length_eq_zero hq0
        go_wp2_with fail
        refine (len_any H.swap).mono ?_
        rintro e w2 ⟨rfl, rfl⟩
        go_wp2_with fail
        refine (drain_any H.swap (by simp)).mono ?_
        rintro e w3 ⟨v3, rfl, H3⟩
        go_wp2_with (refine wpList_append_sld rfl _ _ rfl Try.underlying25 strInfo rfl (by decide) rfl (H3.front 2 rfl) (m := 0) (news := []) (by exact H3.drd) (by simp) (by omega) (by omega) ?_; intro v4 w4 H4)
        go_ret
        have e : Hid (out = L) := Lib.hid (by have := hq.out; simpa using this.symm)
        rw [e.out] at H4
        exact ⟨_, rfl, by simpa using (H4.swap.drop).swap.drop⟩
      · have hpos : 0 < l.length + q.length := by omega
        clear hA
        by_cases hl : l.length = 0
        case' pos =>
          obtain rfl := List.eq_nil_of_length_eq_zero hl
          have hq0 : 0 < q.length := by simpa using hpos
          go_upto_block 1 with (refine (len_any H.swap).mono ?_; rintro e w2 ⟨rfl, rfl⟩)
        case' neg =>
          have hl0 : 0 < l.length := by omega
          go_upto_block 1 with (fail)
        all_goals
          clear hl
          go_wp2_with fail
          go_loopw [1] (fun s1 wr => ∃ l q : List ByteArray, Hid (L = out ++ (q ++ l)) ∧ 0 < l.length + q.length ∧ Rd w 1 s1 l.length (txs l) ∧ Own w wr [sld 9 1 u5 out.length (txs out), Gt g cap q false]) (fun s1 _ => sliceLen s1)
          case atStart => exact ⟨_, q, hq, hpos, hr, H⟩
          case round =>
            clear H hr ha1 ha2 hq hlen hpos
            obtain ⟨l, q, hq, hpos, hr, H⟩ := hrel
            have hlen : out.length + (q.length + l.length) = L.length := by have := congrArg List.length hq.out; simp at this; omega
            obtain ⟨a1, c1, rfl, ha1, ha2⟩ := hr.shape
            by_cases hgo : 0 < l.length ∧ q.length < cap
            · obtain ⟨hl0, hqc⟩ := hgo
              cases l with
              | nil => simp at hl0
              | cons x l =>
                obtain ⟨b, o, _, e, _⟩ := hr.some (by simp [txs])
                cases e
                have c0 := (hr.old H).cell (txs_get (l := x :: l) (k := 0) rfl)
                rw [Nat.add_zero] at c0
                go_wp2_with (refine (put_room x H.swap hqc).mono ?_; rintro e w3 ⟨_, rfl, rfl, H3⟩; clear H c0)
                go_roundw
                case rel => exact ⟨l, q ++ [x], Lib.hid (by rw [hq.out]; simp), by simp; omega, hr.tail1, H3.swap⟩
                case measure => simp [sliceLen]
            · have hgo2 : l.length = 0 ∨ cap ≤ q.length := by omega
              have hq0 : 0 < q.length := by omega
              clear hgo
              obtain ⟨y, q, rfl⟩ : ∃ y q', q = y :: q' := by
                cases q with
                | nil => simp at hq0
                | cons y q => exact ⟨y, q, rfl⟩
              by_cases hl : l.length = 0
              case' pos =>
                obtain rfl := List.eq_nil_of_length_eq_zero hl
                go_upto_region 6 with (fail)
              case' neg =>
                obtain ⟨x, l, rfl⟩ : ∃ x l', l = x :: l' := by
                  cases l with
                  | nil => simp at hl
                  | cons x l => exact ⟨x, l, rfl⟩
                obtain ⟨b, o, _, e, _⟩ := hr.some (by simp [txs])
                cases e
                have c0 := (hr.old H).cell (txs_get (l := x :: l) (k := 0) rfl)
                rw [Nat.add_zero] at c0
                go_upto_region 6 with (refine (put_full x H.swap (by omega)).mono ?_; rintro e w3 ⟨_, rfl, rfl, H3⟩; clear H c0; have H := H3.swap; clear H3)
              all_goals
                have hs0 := Lib.hid H.dcount
                go_wp2_with fail
                refine (get_some y H.swap).mono ?_
                rintro e w4 ⟨_, rfl, rfl, H4⟩
                clear H
                go_wp2_with (refine wpList_append_one_sld rfl _ _ rfl Try.underlying25 strInfo rfl (by decide) rfl H4.swap (news := [.string y]) rfl rfl rfl (by intro u hu; simp at hu; subst hu; rfl) (by omega) (by omega) ?_; intro v5 w5 H5)
                go_roundw
                case rel => exact ⟨_, out ++ [y], q, Lib.hid (by rw [hq.out]; simp), hr, by simpa [txs] using H5⟩
                case measure =>
                  have := H5.dcount
                  have := hs0.out
                  simp only [List.length_cons] at hlen
                  simp only [*]
                  omega

set_option maxHeartbeats 400000 in
theorem gthrough_any (size : Int) (L : List ByteArray) {v : Value} (w : World) (hr : Rd w 1 v L.length (txs L)) :
    Calls Try.prog 5 #[.int .i64 size, v] w (Ret fun v w' => v = .bool true ∧ Own w w' []) := by
  obtain ⟨a0, c0, rfl, ha1, ha2⟩ := hr.shape
  go_enter Try.func5, Try.ntmps5
  go_upto_if 7 with (fail)
  go_cut [1] (fun s1 wx => wx = w ∧ ∃ l : List ByteArray, l.length ≤ 300 ∧ Rd w 1 s1 l.length (txs l))
  case first =>
    by_cases h : 300 < L.length
    · have h2 : (300 : Int) < (L.length : Int) := by omega
      go_wp2
      go_meet
      refine ⟨rfl, L.take 300, by simp; omega, ?_⟩
      have := hr.take (k := 300) (by omega)
      simpa [txs, Nat.min_eq_left (Nat.le_of_lt h)] using this
    · have h2 : (L.length : Int) ≤ 300 := by omega
      go_wp2
      go_meet
      exact ⟨rfl, L, by omega, hr⟩
  case rest =>
    obtain ⟨rfl, l, hl, hr⟩ := hcut
    go_wp2_with fail
    refine (through_any size l _ hr (by omega)).mono ?_
    rintro e w2 ⟨v2, rfl, H2⟩
    go_wp2_with fail
    refine (sametexts_any l l _ H2.drd (hr.old H2)).mono ?_
    rintro e w3 ⟨_, rfl, hv, H3⟩
    obtain rfl := hv.trans (show _ = Value.bool true by simp)
    go_wp2_with fail
    refine (awake_any _).mono ?_
    rintro e w4 ⟨_, rfl, rfl, H4⟩
    go_wp2
    go_ret
    exact ⟨_, rfl, rfl, ((H2.join H3).join H4).bare⟩
end Go.Proofs.Ytnjneeinpmehpaa
