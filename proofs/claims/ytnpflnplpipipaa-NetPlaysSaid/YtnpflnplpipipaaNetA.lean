/-
  net: the walks of New, Fates, Left, Len, fate, clip.
-/
import Derived.Test.YtnpflnplpipipaaNetP
import Derived.Carry
namespace Go.Proofs.Ytnpflnplpipipaa
open Go.RowKit Go.Maps

section
variable {w0 w : World} {ps : List Piece} {g : Nat} {K D : Int} {F : List Fa} {late : Int × Int → Int} {c : Nat} {M : List (It (Int × ByteArray))} {k : Nat}

theorem netlen_any (H : Own w0 w (NetP g K D F late c M k :: ps)) :
    Calls Try.prog 12 #[.pointer (some ⟨g, 0, none⟩)] w fun e w' => e = .returned (.int .i64 M.length) ∧ w' = w := by
  obtain ⟨v, b, H⟩ := net_open H
  go_enter Try.func12, Try.ntmps12
  go_wp2_with fail
  refine (DueP.dlen_any H).mono ?_
  rintro e w1 ⟨rfl, rfl⟩
  go_wp2
  go_ret
  exact ⟨rfl, rfl⟩

theorem netleft_any (H : Own w0 w (NetP g K D F late c M k :: ps)) :
    Calls Try.prog 18 #[.pointer (some ⟨g, 0, none⟩)] w fun e w' => e = .returned (.int .i64 F.length) ∧ w' = w := by
  obtain ⟨v, b, H⟩ := net_open H
  obtain ⟨a, cp, rfl, _⟩ := (H.front 1 rfl).drd.shape
  obtain ⟨m, vd, _, _, H⟩ := dq_blk H
  have c0 := H.cells
  go_enter Try.func18, Try.ntmps18
  go_wp2
  go_ret
  exact ⟨rfl, rfl⟩

theorem netnew_any (H : Own w0 w ps) (K D : Int) :
    Calls Try.prog 7 #[.agg #[.int .i64 K, .int .i64 D]] w (Ret fun v w' => ∃ g, v = .pointer (some ⟨g, 0, none⟩) ∧ Own w0 w' (NetP g (if K < 0 then 0 else K) (clipI D 0 64) [] (fun _ => 0) 0 [] 0 :: ps)) := by
  have hmm := fun w => run_makeMap (P := Try.prog) 49 w
  obtain ⟨K0, hK0⟩ : ∃ k, Hid ((if K < 0 then 0 else K) = k) := ⟨_, rfl⟩
  obtain ⟨D0, hD0⟩ : ∃ k, Hid (clipI D 0 64 = k) := ⟨_, rfl⟩
  rw [hK0.out, hD0.out]
  have fin : ∀ (K' D' : Int) (wz : World) (n : Nat), wz.heap.size = n → K' = K0 → D' = D0 → Own w0 wz ps →
      Own w0 ((wz.alloc (.map #[] 0)).alloc (.cells #[.int .i64 K', .int .i64 D', .slice none 0 0, .map (some n), .slice none 0 0, .int .i64 0] 54)) (NetP (n + 1) K0 D0 [] (fun _ => 0) 0 [] 0 :: ps) := by
    rintro K' D' wz _ rfl rfl rfl h
    have h1 := (h.mpi_new (P := Try.prog) (K := 56) (E := 3) (enc := k2))
    have h2 := h1.alloc (.cells #[.int .i64 K', .int .i64 D', .slice none 0 0, .map (some wz.heap.size), .slice none 0 0, .int .i64 0] 54)
    have e : (wz.alloc (.map #[] 0)).heap.size = wz.heap.size + 1 := by simp
    rw [e] at h2
    exact net_shut ((((DueP.dnew h2).dnil 30 3).swap))
  have FIN := Lib.hid fin
  clear fin
  go_enter Try.func7, Try.ntmps7
  have HB := H.alloc (.cells #[.int .i64 K, .int .i64 D] 23)
  by_cases hk : K < 0
  all_goals by_cases h1 : D < 0
  all_goals by_cases h2 : 64 < D
  all_goals (try omega)
  all_goals
    go_wp2
    go_ret
    refine ⟨_, rfl, _, rfl, ?_⟩
  all_goals (refine FIN.out _ _ _ _ (by simp) ?_ ?_ HB.drop)
  all_goals first | (rw [← hK0.out]; simp; omega) | (rw [← hD0.out]; simp only [clipI]; repeat split <;> first | rfl | omega)
end
end Go.Proofs.Ytnpflnplpipipaa
