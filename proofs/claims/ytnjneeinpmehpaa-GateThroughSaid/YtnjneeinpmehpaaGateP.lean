/-
  Gates: the walk of GatePlays.
-/
import Derived.Test.YtnjneeinpmehpaaGateT
namespace Go.Proofs.Ytnjneeinpmehpaa
open Go.RowKit

/-- A deed: its kind, its text. -/
def gcells (ds : List (Int × ByteArray)) : List Value := ds.flatMap fun d => [.int .i64 d.1, .string d.2]
theorem gcells_length (ds : List (Int × ByteArray)) : (gcells ds).length = ds.length * 2 := by
  unfold gcells
  induction ds with
  | nil => rfl
  | cons x ds ih => simp only [List.flatMap_cons, List.length_append, ih, List.length_cons, List.length_nil]; omega
theorem gcells_get (ds : List (Int × ByteArray)) : ∀ k d, ds[k]? = some d → (gcells ds)[k * 2]? = some (.int .i64 d.1) ∧ (gcells ds)[k * 2 + 1]? = some (.string d.2) := by
  unfold gcells
  induction ds with
  | nil => intro k d h; simp at h
  | cons x ds ih =>
    intro k d h
    cases k with
    | zero => simp at h; subst h; simp
    | succ k =>
      have := ih k d (by simpa using h)
      have e : ∀ j, (([.int .i64 x.1, .string x.2] : List Value) ++ List.flatMap (fun d : Int × ByteArray => [.int .i64 d.1, .string d.2]) ds)[(k + 1) * 2 + j]? = (List.flatMap (fun d : Int × ByteArray => [Value.int .i64 d.1, .string d.2]) ds)[k * 2 + j]? := by
        intro j
        rw [List.getElem?_append_right (by simp; omega)]
        congr 1
        simp; omega
      simp only [List.flatMap_cons]
      exact ⟨(e 0).trans this.1, (e 1).trans this.2⟩

set_option maxRecDepth 100000 in
set_option maxHeartbeats 2000000 in
theorem plays_any (size : Int) (v : Value) (n0 : Nat) (ds : List (Int × ByteArray)) (w : World) (hr : Rd w 2 v n0 (gcells ds)) :
    Calls Try.prog 3 #[.int .i64 size, v] w (Ret fun v w' => v = .bool true ∧ Own w w' []) := by
  have hlen : Hid (n0 = ds.length) := by have := hr.len; rw [gcells_length] at this; exact Lib.hid (by omega)
  have HR := Lib.hid hr
  obtain ⟨a0, cap0, rfl, hn1, hn2⟩ := hr.shape
  clear hr
  go_enter Try.func3, Try.ntmps3
  go_wp2_with fail
  refine (new_any size (Own.start w)).mono ?_
  rintro e w1 ⟨_, rfl, g, rfl, H1⟩
  go_upto_if 18 with (fail)
  go_cut [6] (fun s6 wx => ∃ m : Int, s6 = .int .i64 m ∧ (∀ n : Nat, (n : Int) < m ↔ n < room size) ∧ Own w wx [Gt g (room size) [] false])
  case first =>
    by_cases hb : size > 256
    · go_wp2
      go_meet
      exact ⟨_, rfl, fun n => by unfold room; omega, H1⟩
    · have hb2 : size ≤ 256 := by omega
      go_wp2
      go_meet
      exact ⟨_, rfl, fun n => by unfold room; omega, H1⟩
  case rest =>
    clear H1
    obtain ⟨m, rfl, hm, H⟩ := hcut
    have HM := Lib.hid hm
    have hroom : room size ≤ 256 := by unfold room; omega
    clear hm
    generalize room size = cap at *
    go_wp2_with fail
    go_loopw [7, 8, 9] (fun s7 s8 i wx => ∃ (k : Nat) (q : List ByteArray) (cl : Bool), k ≤ n0 ∧ k ≤ 400 ∧ i = .int .i64 k ∧ s8 = .bool cl ∧ q.length ≤ cap ∧ Own w wx [sld 9 1 s7 q.length (txs q), Gt g cap q cl]) (fun _ _ i _ => 400 - (intOf i).toNat)
    case atStart => exact ⟨0, [], false, Nat.zero_le _, Nat.zero_le _, rfl, rfl, Nat.zero_le _, H.dnil _ _⟩
    case round =>
      clear H
      obtain ⟨k, q, cl, hk, hk4, rfl, rfl, hqc, H⟩ := hrel
      obtain ⟨a7, c7, rfl, h71, h72⟩ := H.drd.shape
      by_cases hlt : k < n0 ∧ k < 400
      · obtain ⟨hlt, hl4⟩ := hlt
        obtain ⟨d, hd⟩ := get_of_lt (l := ds) (k := k) (by have := hlen.out; omega)
        obtain ⟨g0, g1⟩ := gcells_get ds k d hd
        clear hd
        obtain ⟨b, o, _, e, _⟩ := HR.out.some (by rw [gcells_length]; have := hlen.out; omega)
        cases e
        have c0 := (HR.out.old H).cell g0
        have c1 := (HR.out.old H).cell g1
        rw [← Nat.add_assoc] at c1
        clear g0 g1
        obtain ⟨dk, s⟩ := d
        simp only at c0 c1
        go_upto_region 11 with (fail)
        replace H := H.alloc (.cells #[.int .i64 dk, .string s] 27)
        obtain ⟨gx, hgx⟩ : ∃ g, wr.heap.size = g := ⟨_, rfl⟩
        rw [hgx] at H ⊢
        generalize World.alloc wr _ = wx at *
        clear hgx c0 c1
        have c0 := H.cells
        go_upto_block 2 with (fail)
        go_cut [7, 8] (fun s7 s8 wx => ∃ (q : List ByteArray) (cl : Bool), s8 = .bool cl ∧ q.length ≤ cap ∧ Own w wx [sld 9 1 s7 q.length (txs q), Gt g cap q cl])
        case first =>
          have HG := (H.front 2 rfl)
          by_cases hq : dk = 0 ∨ dk = 1 ∨ dk = 2
          · by_cases hp : cl = false ∧ q.length < cap
            · obtain ⟨rfl, hp⟩ := hp
              have hp2 := (HM.out q.length).2 hp
              rcases hq with rfl | rfl | rfl
              all_goals
                go_wp2_with fail
                refine (put_room s HG hp).mono ?_
                rintro e w3 ⟨_, rfl, rfl, H3⟩
                clear c0
                have c0 := (H3.front 1 rfl).cells
                go_wp2_with (refine wpList_append_one_sld rfl _ _ rfl Try.underlying25 strInfo rfl (by decide) rfl (H3.front 2 rfl) (news := [.string s]) rfl rfl rfl (by intro u hu; simp at hu; subst hu; rfl) (by omega) (by omega) ?_; intro v5 w5 H5)
                go_meet
                exact ⟨q ++ [s], false, rfl, by simp; omega, by simpa [txs] using (H5.front 2 rfl).drop⟩
            · by_cases hcl : cl = true
              · subst hcl
                rcases hq with rfl | rfl | rfl
                all_goals
                  go_wp2_with fail
                  refine (put_shut s HG).mono ?_
                  rintro e w3 ⟨_, rfl, rfl, H3⟩
                  go_wp2
                  go_meet
                  exact ⟨q, true, rfl, hqc, (((H3.front 2 rfl).front 2 rfl).drop)⟩
              · obtain rfl : cl = false := by simpa using hcl
                have hp2 : ¬ q.length < cap := fun h => hp ⟨rfl, h⟩
                have hp3 : ¬ (q.length : Int) < m := fun h => hp2 ((HM.out q.length).1 h)
                have hp4 : m ≤ (q.length : Int) := by omega
                clear hp hp3
                rcases hq with rfl | rfl | rfl
                all_goals
                  go_wp2_with fail
                  refine (put_full s HG (by omega)).mono ?_
                  rintro e w3 ⟨_, rfl, rfl, H3⟩
                  go_wp2
                  go_meet
                  exact ⟨q, false, rfl, hqc, (((H3.front 2 rfl).front 2 rfl).drop)⟩
          · have e0 : (dk == 0) = false := by simp; omega
            have e1 : (dk == 1) = false := by simp; omega
            have e2 : (dk == 2) = false := by simp; omega
            by_cases hq2 : dk = 3 ∨ dk = 4
            · clear hq
              cases q with
              | nil =>
                rcases hq2 with rfl | rfl
                all_goals
                  clear e0 e1 e2
                  go_wp2_with fail
                  refine (get_empty HG).mono ?_
                  rintro e w3 ⟨_, rfl, rfl, H3⟩
                  go_wp2
                  go_meet
                  exact ⟨[], cl, rfl, hqc, (((H3.front 2 rfl).front 2 rfl).drop)⟩
              | cons y q =>
                obtain ⟨b7, o7, _, e, _⟩ := H.swap.drd.some (by simp [txs])
                cases e
                by_cases hc : c7 = 1
                case' pos => subst hc
                all_goals rcases hq2 with rfl | rfl
                all_goals
                  clear e0 e1 e2
                  go_wp2_with fail
                  refine (get_some y HG).mono ?_
                  rintro e w3 ⟨_, rfl, rfl, H3⟩
                  clear c0
                  have c0 := (H3.front 2 rfl).drd.cell (txs_get (l := y :: q) (k := 0) rfl)
                  rw [Nat.add_zero] at c0
                  go_wp2
                  go_meet
                  have H5 := (H3.front 2 rfl).dtail1
                  first | rw [if_pos rfl] at H5 | rw [if_neg hc] at H5
                  exact ⟨q, cl, rfl, by simp at hqc; omega, ((H5.front 2 rfl).drop)⟩
            · have e3 : (dk == 3) = false := by simp; omega
              have e4 : (dk == 4) = false := by simp; omega
              clear hq hq2
              by_cases hq5 : dk = 5
              · subst hq5
                clear e0 e1 e2 e3 e4
                go_wp2_with fail
                refine (shut_any HG).mono ?_
                rintro e w3 ⟨_, rfl, H3⟩
                go_wp2
                go_meet
                exact ⟨q, true, rfl, hqc, (((H3.front 2 rfl).front 2 rfl).drop)⟩
              · have e5 : (dk == 5) = false := by simp; omega
                go_wp2_with fail
                refine (drain_any HG (by omega)).mono ?_
                rintro e w3 ⟨v3, rfl, H3⟩
                go_wp2_with fail
                refine (sametexts_any q q _ H3.drd (H3.front 3 rfl).drd).mono ?_
                rintro e w4 ⟨_, rfl, hv, H4⟩
                obtain rfl := hv.trans (show _ = Value.bool true by simp)
                go_wp2
                go_meet
                have H5 : Own w w4 _ := H3.join H4
                exact ⟨[], true, rfl, by simp, ((((H5.front 3 rfl).front 3 rfl).front 2 rfl).drop.drop.drop).dnil _ _⟩
        case rest =>
          clear H c0 hqc
          obtain ⟨q, cl, rfl, hqc, H⟩ := hcut
          obtain ⟨a7, c7, rfl, h71, h72⟩ := H.drd.shape
          go_wp2_with fail
          refine (len_any H.swap).mono ?_
          rintro e w3 ⟨rfl, rfl⟩
          go_wp2
          go_round
          case rel => exact ⟨k + 1, q, cl, by omega, by omega, by go_num, rfl, hqc, H⟩
          case measure => simp [intOf]; omega
      · go_wp2_with fail
        all_goals
          refine (awake_any _).mono ?_
          rintro e w5 ⟨_, rfl, rfl, H5⟩
          go_wp2
          go_ret
          exact ⟨_, rfl, rfl, (H.join H5).bare⟩
end Go.Proofs.Ytnjneeinpmehpaa
