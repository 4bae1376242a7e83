/-
  Queues: the walk of RingPlays.
-/
import Derived.Test.YtnbekiggoejogaaRingT
import Derived.Test.YtnbekiggoejogaaBit
namespace Go.Proofs.Ytnbekiggoejogaa
open Go.RowKit

/-- A deed: its kind, its number. -/
def prow (d : Int × Int) : List Value := [.int .i64 d.1, .int .i64 d.2]
theorem prow_length (d : Int × Int) : (prow d).length = 2 := rfl

set_option maxRecDepth 100000 in
set_option maxHeartbeats 3200000 in
theorem plays_any (size : Int) (v : Value) (ds : List (Int × Int)) (hds : ∀ d ∈ ds, -9223372036854775808 ≤ d.2 ∧ d.2 ≤ 9223372036854775807) (w : World) (hr : Rd w 2 v ds.length (rows prow ds)) :
    Calls Try.prog 5 #[.int .i64 size, v] w (Ret fun v w' => v = .bool true ∧ Own w w' []) := by
  obtain ⟨n0, hlen⟩ : ∃ n, Hid (ds.length = n) := ⟨_, rfl⟩
  rw [hlen.out] at hr
  have HR := Lib.hid hr
  obtain ⟨a0, cap0, rfl, hn1, hn2⟩ := hr.shape
  clear hr
  go_enter Try.func5, Try.ntmps5
  go_upto_if 15 with (fail)
  go_cut [0] (fun s0 wx => wx = w ∧ ∃ m : Int, s0 = .int .i64 m ∧ m ≤ 100)
  case first =>
    have hand := i64_and63 size
    by_cases hb : size > 100
    · go_wp2
      go_meet
      exact ⟨rfl, _, rfl, by omega⟩
    · have hb2 : size ≤ 100 := by omega
      go_wp2
      go_meet
      exact ⟨rfl, _, rfl, by omega⟩
  case rest =>
    obtain ⟨rfl, m, rfl, hm⟩ := hcut
    go_wp2_with fail
    refine (RingInt.new_any m (Own.start wc)).mono ?_
    rintro e w1 ⟨_, rfl, g, rfl, H⟩
    have HM : Hid (∀ n : Nat, (n : Int) < m ↔ n < (min (max m 0) 65536).toNat) := Lib.hid fun n => by omega
    have hcap : (min (max m 0) 65536).toNat ≤ 100 := by omega
    generalize (min (max m 0) 65536).toNat = cap at *
    go_wp2_with fail
    go_loopw [6, 7] (fun s6 i wx => ∃ (k : Nat) (q : List Int), k ≤ n0 ∧ k ≤ 200 ∧ i = .int .i64 k ∧ q.length ≤ cap ∧ Own wc wx [sld 3 1 s6 q.length (nums q), RingInt.Rg g cap q]) (fun _ i _ => 200 - (intOf i).toNat)
    case atStart => exact ⟨0, [], Nat.zero_le _, Nat.zero_le _, rfl, Nat.zero_le _, H.dnil _ _⟩
    case round =>
      clear H
      obtain ⟨k, q, hk, hk4, rfl, hqc, H⟩ := hrel
      obtain ⟨a7, c7, rfl, h71, h72⟩ := H.drd.shape
      by_cases hlt : k < n0 ∧ k < 200
      · obtain ⟨hlt, hl4⟩ := hlt
        obtain ⟨d, hd⟩ := get_of_lt (l := ds) (k := k) (by rw [hlen.out]; exact hlt)
        have hd2 := hds d (List.mem_of_getElem? hd)
        obtain ⟨b, o, _, e, _⟩ := HR.out.some (by rw [rows_length prow prow_length, hlen.out]; omega)
        cases e
        have c0 := (HR.out.old H).cell ((rows_get prow prow_length hd 0 (by omega)).trans rfl)
        have c1 := (HR.out.old H).cell ((rows_get prow prow_length hd 1 (by omega)).trans rfl)
        rw [← Nat.add_assoc] at c1
        rw [Nat.add_zero] at c0
        clear hd
        obtain ⟨dk, s⟩ := d
        simp only at c0 c1 hd2
        go_upto_region 9 with (fail)
        replace H := H.alloc (.cells #[.int .i64 dk, .int .i64 s] 44)
        obtain ⟨gx, hgx⟩ : ∃ g, wr.heap.size = g := ⟨_, rfl⟩
        rw [hgx] at H ⊢
        generalize World.alloc wr _ = wx at *
        clear hgx c0 c1
        have c0 := H.cells
        go_upto_block 2 with (fail)
        go_cut [6] (fun s6 wx => ∃ q : List Int, q.length ≤ cap ∧ Own wc wx [sld 3 1 s6 q.length (nums q), RingInt.Rg g cap q])
        case first =>
          have HG := (H.front 2 rfl)
          by_cases hq : dk = 0 ∨ dk = 1 ∨ dk = 2
          · by_cases hp : q.length < cap
            · have hp2 := (HM.out q.length).2 hp
              rcases hq with rfl | rfl | rfl
              all_goals
                go_wp2_with fail
                refine (RingInt.push_room s HG hp (by omega)).mono ?_
                rintro e w3 ⟨_, rfl, rfl, H3⟩
                clear c0
                have c0 := (H3.front 1 rfl).cells
                go_wp2_with (refine wpList_append_one_sld rfl _ _ rfl Try.underlying28 RingInt.info rfl (by decide) rfl (H3.front 2 rfl) (news := [.int .i64 s]) rfl rfl rfl (by intro u hu; simp at hu; subst hu; rfl) (by omega) (by omega) ?_; intro v5 w5 H5)
                go_meet
                exact ⟨q ++ [s], by simp; omega, by simpa [nums] using ((H5.front 2 rfl).drop)⟩
            · have hp2 : ¬ (q.length : Int) < m := fun h => hp ((HM.out q.length).1 h)
              have hp3 : m ≤ (q.length : Int) := by omega
              have hp4 : q.length = cap := by omega
              clear hp2 hp
              have HP4 := Lib.hid hp4
              clear hp4
              rcases hq with rfl | rfl | rfl
              all_goals
                go_wp2_with fail
                refine (RingInt.push_full s HG HP4.out).mono ?_
                rintro e w3 ⟨_, rfl, rfl, H3⟩
                go_wp2
                go_meet
                exact ⟨q, hqc, (((H3.front 2 rfl).front 2 rfl).drop)⟩
          · have e0 : (dk == 0) = false := by simp; omega
            have e1 : (dk == 1) = false := by simp; omega
            have e2 : (dk == 2) = false := by simp; omega
            by_cases hq2 : dk = 3 ∨ dk = 4
            · clear hq
              cases q with
              | nil =>
                rcases hq2 with rfl | rfl
                all_goals
                  clear e0 e1 e2
                  go_wp2_with fail
                  refine (RingInt.pop_none HG).mono ?_
                  rintro e w3 ⟨_, rfl, rfl, H3⟩
                  go_wp2
                  go_meet
                  exact ⟨[], hqc, (((H3.front 2 rfl).front 2 rfl).drop)⟩
              | cons y q =>
                obtain ⟨b7, o7, _, e, _⟩ := H.swap.drd.some (by simp [nums])
                cases e
                by_cases hc : c7 = 1
                case' pos => subst hc
                all_goals rcases hq2 with rfl | rfl
                all_goals
                  clear e0 e1 e2
                  go_wp2_with fail
                  refine (RingInt.pop_some HG (by omega)).mono ?_
                  rintro e w3 ⟨_, rfl, rfl, H3⟩
                  clear c0
                  have c0 := (H3.front 2 rfl).drd.cell (nums_get (l := y :: q) (k := 0) rfl)
                  rw [Nat.add_zero] at c0
                  go_wp2
                  go_meet
                  have H5 := (H3.front 2 rfl).dtail1
                  first | rw [if_pos rfl] at H5 | rw [if_neg hc] at H5
                  exact ⟨q, by simp at hqc; omega, ((H5.front 2 rfl).drop)⟩
            · have e3 : (dk == 3) = false := by simp; omega
              have e4 : (dk == 4) = false := by simp; omega
              clear hq hq2
              by_cases hin : 0 ≤ s ∧ s < (q.length : Int)
              · obtain ⟨hin0, hin1⟩ := hin
                obtain ⟨i, rfl⟩ : ∃ i : Nat, s = i := ⟨s.toNat, by omega⟩
                obtain ⟨y, hy⟩ := get_of_lt (l := q) (k := i) (by omega)
                obtain ⟨b7, o7, _, e, _⟩ := H.swap.drd.some (by rw [nums_length]; omega)
                cases e
                have hiN : i < q.length := by omega
                go_wp2_with fail
                refine (RingInt.at_yes HG hy (by omega)).mono ?_
                rintro e w3 ⟨_, rfl, rfl, H3⟩
                clear c0
                have c0 := (H3.front 1 rfl).cells
                have c1 := (H3.front 2 rfl).drd.cell (nums_get hy)
                clear hy
                go_wp2
                go_meet
                exact ⟨q, hqc, (((H3.front 2 rfl).front 2 rfl).drop)⟩
              · by_cases hs0 : 0 ≤ s
                case' pos =>
                  have hs1 : (q.length : Int) ≤ s := by omega
                case' neg =>
                  have hs1 : s < 0 := by omega
                all_goals
                  clear hin
                  go_wp2_with fail
                  refine (RingInt.at_no s HG (by omega)).mono ?_
                  rintro e w3 ⟨_, rfl, rfl, H3⟩
                  clear c0
                  have c0 := (H3.front 1 rfl).cells
                  go_wp2
                  go_meet
                  exact ⟨q, hqc, (((H3.front 2 rfl).front 2 rfl).drop)⟩
        case rest =>
          clear H c0 hqc
          obtain ⟨q, hqc, H⟩ := hcut
          obtain ⟨a7, c7, rfl, h71, h72⟩ := H.drd.shape
          go_wp2_with fail
          refine (RingInt.rlen_any H.swap).mono ?_
          rintro e w3 ⟨rfl, rfl⟩
          go_wp2_with fail
          refine (all_any H.swap (by omega) (by omega)).mono ?_
          rintro e w4 ⟨v4, rfl, H4⟩
          go_wp2_with fail
          refine (same_any q q _ H4.rd (H4.front 2 rfl).drd).mono ?_
          rintro e w5 ⟨_, rfl, hv, H5⟩
          obtain rfl := hv.trans (show _ = Value.bool true by simp)
          have H6 : Own wc w5 _ := H4.join H5
          clear H H4
          go_wp2
          go_round
          case rel => exact ⟨k + 1, q, by omega, by omega, by go_num, hqc, (((H6.front 2 rfl).front 1 rfl).drop)⟩
          case measure => simp [intOf]; omega
      · go_wp2_with fail
        all_goals
          refine (awake_any _).mono ?_
          rintro e w5 ⟨_, rfl, rfl, H5⟩
          go_wp2
          go_ret
          exact ⟨_, rfl, rfl, (H.join H5).bare⟩
end Go.Proofs.Ytnbekiggoejogaa
