/-
  Queues: the walk of RingTexts.
-/
import Derived.Test.YtnbekiggoejogaaRingL
namespace Go.Proofs.Ytnbekiggoejogaa
open Go.RowKit

theorem drop_at {α : Type _} {l : List α} {k : Nat} {s : α} (h : l[k]? = some s) : l.drop k = s :: l.drop (k + 1) := by
  obtain ⟨hk, rfl⟩ := List.getElem?_eq_some_iff.1 h
  exact List.drop_eq_getElem_cons hk
theorem take_at {α : Type _} {l : List α} {k : Nat} {s : α} (h : l[k]? = some s) : l.take (k + 1) = l.take k ++ [s] := by rw [List.take_add_one, h]; rfl

set_option maxHeartbeats 1600000 in
theorem texts_any (L : List ByteArray) {v : Value} (w : World) (hr : Rd w 1 v L.length (txs L)) :
    Calls Try.prog 6 #[v] w (Ret fun v w' => v = .bool true ∧ Own w w' []) := by
  obtain ⟨a0, c0, rfl, ha1, ha2⟩ := hr.shape
  go_enter Try.func6, Try.ntmps6
  go_upto_if 12 with (fail)
  go_cut [0] (fun s0 wx => wx = w ∧ ∃ l : List ByteArray, l.length ≤ 100 ∧ Rd w 1 s0 l.length (txs l))
  case first =>
    by_cases h : 100 < L.length
    · have h2 : (100 : Int) < (L.length : Int) := by omega
      go_wp2
      go_meet
      refine ⟨rfl, L.take 100, by simp; omega, ?_⟩
      have := hr.take (k := 100) (by omega)
      simpa [txs, Nat.min_eq_left (Nat.le_of_lt h)] using this
    · have h2 : (L.length : Int) ≤ 100 := by omega
      go_wp2
      go_meet
      exact ⟨rfl, L, by omega, hr⟩
  case rest =>
    clear hr ha1 ha2
    obtain ⟨rfl, l, hl, hr⟩ := hcut
    obtain ⟨a1, c1, rfl, ha1, ha2⟩ := hr.shape
    obtain ⟨n, hn⟩ : ∃ n, Hid (l.length = n) := ⟨_, rfl⟩
    rw [hn.out] at hr hl ha1
    have HR := Lib.hid hr
    clear hr
    rw [hn.out]
    go_wp2_with fail
    refine (RingStr.new_any (n : Int) (Own.start wc)).mono ?_
    rintro e w1 ⟨_, rfl, g, rfl, H⟩
    rw [show (min (max (n : Int) 0) 65536).toNat = n by omega] at H
    go_wp2_with fail
    go_loopw [4] (fun i wr => ∃ k : Nat, k ≤ n ∧ i = .int .i64 k ∧ Own wc wr [RingStr.Rg g n (l.take k)]) (fun i _ => n - (intOf i).toNat)
    case atStart => exact ⟨0, Nat.zero_le _, rfl, H⟩
    case round =>
      clear H
      obtain ⟨k, hk, rfl, H⟩ := hrel
      by_cases hlt : k < n
      · obtain ⟨s, hs⟩ := get_of_lt (l := l) (k := k) (by rw [hn.out]; exact hlt)
        have hnx := Lib.hid (take_at hs)
        obtain ⟨b, o, _, e, _⟩ := HR.out.some (by rw [txs_length, hn.out]; omega)
        cases e
        have c0 := (HR.out.old H).cell (txs_get hs)
        clear hs
        go_wp2_with fail
        refine (RingStr.push_room s H (by rw [List.length_take, hn.out]; omega) (by omega)).mono ?_
        rintro e w2 ⟨_, rfl, rfl, H2⟩
        clear c0 H
        go_wp2
        go_round
        case rel => exact ⟨k + 1, by omega, by go_num, by rw [hnx.out]; exact H2⟩
        case measure => simp [intOf]; omega
      · obtain rfl : k = n := by omega
        have htk : Hid (l.take k = l) := Lib.hid (List.take_of_length_le (by rw [hn.out]; exact Nat.le_refl _))
        rw [htk.out] at H
        go_wp2_with fail
        refine (RingStr.push_full ⟨#[120]⟩ H hn.out).mono ?_
        rintro e w2 ⟨_, rfl, rfl, H2⟩
        clear H
        go_wp2_with fail
        go_loopw [5] (fun i wr => ∃ j : Nat, j ≤ k ∧ i = .int .i64 j ∧ Own wc wr [RingStr.Rg g k (l.drop j)]) (fun i _ => k - (intOf i).toNat)
        case atStart => exact ⟨0, Nat.zero_le _, rfl, H2⟩
        case round =>
          clear H2
          obtain ⟨j, hj, rfl, H⟩ := hrel
          by_cases hlt : j < k
          · obtain ⟨s, hs⟩ := get_of_lt (l := l) (k := j) (by rw [hn.out]; exact hlt)
            obtain ⟨b, o, _, e, _⟩ := HR.out.some (by rw [txs_length, hn.out]; omega)
            cases e
            have hc := Lib.hid (txs_get hs)
            rw [drop_at hs] at H
            clear hs
            go_wp2_with fail
            refine (RingStr.pop_some H (by omega)).mono ?_
            rintro e w3 ⟨_, rfl, rfl, H3⟩
            clear H
            have c0 := (HR.out.old H3).cell hc.out
            go_wp2
            go_round
            case rel => exact ⟨j + 1, by omega, by go_num, H3⟩
            case measure => simp [intOf]; omega
          · obtain rfl : j = k := by omega
            rw [show l.drop j = [] from List.drop_eq_nil_of_le (by rw [hn.out]; exact Nat.le_refl _)] at H
            go_wp2_with fail
            refine (RingStr.pop_none H).mono ?_
            rintro e w3 ⟨_, rfl, rfl, H3⟩
            go_wp2_with fail
            refine (RingStr.rlen_any H3).mono ?_
            rintro e w4 ⟨rfl, rfl⟩
            go_wp2_with fail
            refine (awake_any _).mono ?_
            rintro e w5 ⟨_, rfl, rfl, H5⟩
            go_wp2
            go_ret
            exact ⟨_, rfl, rfl, (H3.join H5).bare⟩
end Go.Proofs.Ytnbekiggoejogaa
