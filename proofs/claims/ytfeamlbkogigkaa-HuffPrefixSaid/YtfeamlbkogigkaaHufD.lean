/-
  huff: the walks of what may not be counted.
-/
import Derived.Test.YtfeamlbkogigkaaHufC
namespace Go.Proofs.Ytfeamlbkogigkaa
open Go.RowKit

def badF (f : Int) : Bool := decide (f < 0 ∨ 4294967296 < f)
def anyBad (F : List Int) : Bool := F.any badF
/-- The first that may not be, from the i-th on. -/
theorem bad_any (f : Int) (w : World) : Calls Try.prog 30 #[.int .i64 f] w fun e w' => e = .returned (.bool (badF f)) ∧ w' = w := by
  obtain ⟨b, hb⟩ : ∃ b, Hid (badF f = b) := ⟨_, rfl⟩
  rw [hb.out]
  go_enter Try.func30, Try.ntmps30
  by_cases h1 : f < 0
  · have e : Hid (b = true) := Lib.hid (by rw [← hb.out]; simp [badF, h1])
    go_wp2
    go_ret
    exact ⟨by rw [e.out]; rfl, rfl⟩
  · by_cases h2 : 4294967296 < f
    · have e : Hid (b = true) := Lib.hid (by rw [← hb.out]; simp [badF, h2])
      go_wp2
      go_ret
      exact ⟨by rw [e.out]; rfl, rfl⟩
    · have e : Hid (b = false) := Lib.hid (by rw [← hb.out]; simp [badF]; omega)
      go_wp2
      go_ret
      exact ⟨by rw [e.out]; rfl, rfl⟩

theorem rd_num {w w' : World} {n : Nat} {F : List Int} {v : Value} {ps : List Piece} (hr : Rd w 1 v n (nums F)) (H : Own w w' ps) {i : Nat} (hi : i < F.length) {a : Option Addr} {c : Nat} (hv : v = .slice a n c) : ∃ b o, a = some ⟨b, o, none⟩ ∧ w'.cell? ⟨b, o + i, none⟩ = some (.int .i64 (F.getD i 0)) := by
  subst hv
  obtain ⟨b, o, c', he, _⟩ := hr.some (by rw [nums_length]; omega)
  cases he
  exact ⟨b, o, rfl, (hr.old H).cell (nums_get (by rw [List.getElem?_eq_getElem hi]; simp [List.getD_eq_getElem?_getD, hi]))⟩

theorem index_any {w : World} {v : Value} {n : Nat} {F : List Int} (hr : Rd w 1 v n (nums F)) (hn : n ≤ 1000000) :
    Calls Try.prog 42 #[v, .func (.func 30) #[] #[]] w (Ret fun r w' => (∃ x : Int, r = .int .i64 x ∧ (0 ≤ x ↔ anyBad F = true) ∧ -1 ≤ x ∧ x ≤ 1000000) ∧ Own w w' []) := by
  have hl : F.length = n := by have := hr.len; rw [nums_length] at this; omega
  obtain ⟨a, c, rfl, hc1, hc2⟩ := hr.shape
  have HR := Lib.hid hr
  have HL := Lib.hid hl
  have H := Own.start w
  clear hr hl
  go_enter Try.func42, Try.ntmps42
  go_wp2_with fail
  go_loopw [8] (fun s8 wx => ∃ i : Nat, s8 = .int .i64 i ∧ i ≤ n ∧ Hid (∀ j, j < i → badF (F.getD j 0) = false) ∧ Own w wx []) (fun s8 _ => n - (intOf s8).toNat)
  case atStart => exact ⟨0, by go_num, by omega, Lib.hid (fun j h => by omega), H⟩
  case round =>
    clear H
    obtain ⟨i, rfl, hi, hno, H⟩ := hrel
    by_cases hlt : i < n
    · obtain ⟨b, o, rfl, c0⟩ := rd_num HR.out H (by have := HL.out; omega : i < F.length) rfl
      obtain ⟨x, hx⟩ : ∃ x, Hid (F.getD i 0 = x) := ⟨_, rfl⟩
      rw [hx.out] at c0
      have hI : (i : Int) < (n : Int) := by omega
      obtain ⟨bx, hbx⟩ : ∃ bx, Hid (badF x = bx) := ⟨_, rfl⟩
      go_wp2_with fail
      refine (bad_any x _).mono ?_
      rintro e w1 ⟨rfl, rfl⟩
      rw [hbx.out]
      cases bx with
      | true =>
        go_wp2
        go_ret
        refine ⟨_, rfl, ⟨_, rfl, ?_, by omega, by omega⟩, H⟩
        constructor
        · intro _
          unfold anyBad
          rw [List.any_eq_true]
          refine ⟨x, ?_, hbx.out⟩
          have hl := HL.out
          rw [← hx.out, List.getD_eq_getElem?_getD, List.getElem?_eq_getElem (by omega)]
          exact List.getElem_mem _
        · intro _; omega
      | false =>
        go_wp2_with fail
        go_roundw
        case rel => exact ⟨i + 1, by go_num, by omega, Lib.hid (fun j h => by
          rcases Nat.lt_or_ge j i with h1 | h1
          · exact hno.out j h1
          · have : j = i := by omega
            subst this; rw [hx.out]; exact hbx.out), H⟩
        case measure => simp [intOf]; omega
    · have hI : ¬ (i : Int) < (n : Int) := by omega
      go_wp2
      go_ret
      refine ⟨_, rfl, ⟨_, rfl, ?_, by omega, by omega⟩, H⟩
      constructor
      · intro h; omega
      · intro h
        exfalso
        unfold anyBad at h
        rw [List.any_eq_true] at h
        obtain ⟨x, hx, hb⟩ := h
        obtain ⟨j, hj, rfl⟩ := List.getElem_of_mem hx
        have hl := HL.out
        have := hno.out j (by omega)
        rw [List.getD_eq_getElem?_getD, List.getElem?_eq_getElem hj] at this
        simp only [Option.getD_some] at this
        rw [this] at hb
        cases hb
theorem contains_any {w : World} {v : Value} {n : Nat} {F : List Int} (hr : Rd w 1 v n (nums F)) (hn : n ≤ 1000000) :
    Calls Try.prog 31 #[v, .func (.func 30) #[] #[]] w (Ret fun r w' => r = .bool (anyBad F) ∧ Own w w' []) := by
  have HI := Lib.hid (index_any hr hn)
  obtain ⟨b, hb⟩ : ∃ b, Hid (anyBad F = b) := ⟨_, rfl⟩
  rw [hb.out]
  clear hr
  go_enter Try.func31, Try.ntmps31
  go_wp2_with fail
  refine HI.out.mono ?_
  rintro e w1 ⟨_, rfl, ⟨x, rfl, hx, hx1, hx2⟩, H1⟩
  rw [hb.out] at hx
  by_cases h0 : 0 ≤ x
  · have e := hx.1 h0
    subst e
    clear hx
    go_wp2
    go_ret
    exact ⟨_, rfl, rfl, H1⟩
  · have e : b = false := by cases b <;> simp_all
    subst e
    have e2 : Hid (decide (0 ≤ x) = false) := Lib.hid (by simp; omega)
    clear hx
    go_wp2
    go_ret
    exact ⟨_, rfl, by show Value.bool (decide (0 ≤ x)) = _; rw [e2.out], H1⟩
end Go.Proofs.Ytfeamlbkogigkaa
