/-
  net: the walks of put, Inject, Next, letter.
-/
import Derived.Test.YtnpflnplpipipaaNetB
import Derived.Test.YtnpflnplpipipaaAppS
namespace Go.Proofs.Ytnpflnplpipipaa
open Go.RowKit Go.Maps

section
variable {w0 w : World} {ps : List Piece} {g : Nat} {K D : Int} {F : List Fa} {late : Int × Int → Int} {c : Nat} {M : List (It (Int × ByteArray))} {k : Nat}

theorem netput_any (H : Own w0 w (NetP g K D F late c M k :: ps)) (hM : M.length ≤ 10000) (hk : k ≤ 1000000) (at_ dst : Int) (s : ByteArray) :
    Calls Try.prog 21 #[.pointer (some ⟨g, 0, none⟩), .int .i64 at_, .int .i64 dst, .string s] w (Ret fun _ w' => Own w0 w' (NetP g K D F late c (M ++ [⟨at_, k, (dst, s)⟩]) (k + 1) :: ps)) := by
  obtain ⟨vf, b, H⟩ := net_open H
  obtain ⟨n, hn⟩ : ∃ n, Hid (M.length = n) := ⟨_, rfl⟩
  rw [hn.out] at hM
  go_enter Try.func21, Try.ntmps21
  go_wp2_with fail
  refine (DueP.dlen_any H).mono ?_
  rintro e w1 ⟨rfl, rfl⟩
  rw [hn.out]
  have hn1 : (n : Int) < 16384 := by omega
  go_wp2_with fail
  refine (DueP.dput_any at_ (dst, s) H (by rw [hn.out]; omega) (by omega)).mono ?_
  rintro e w2 ⟨_, rfl, H2⟩
  go_wp2
  go_end0
  exact ⟨_, rfl, net_shut H2⟩

set_option maxHeartbeats 1600000 in
theorem netinject_any (H : Own w0 w (NetP g K D F late c M k :: ps)) (hM : M.length ≤ 10000) (hk : k ≤ 1000000) {now : Nat} (hnow : now ≤ 1000) (dst delay : Int) (s : ByteArray) :
    Calls Try.prog 15 #[.pointer (some ⟨g, 0, none⟩), .int .i64 now, .int .i64 dst, .int .i64 delay, .string s] w (Ret fun _ w' => Own w0 w' (NetP g K D F late c (M ++ [⟨(now : Int) + 1 + clipI delay 0 64, k, (dst, s)⟩]) (k + 1) :: ps)) := by
  have fin : ∀ (d : Int), d = (now : Int) + 1 + clipI delay 0 64 → Calls Try.prog 21 #[.pointer (some ⟨g, 0, none⟩), .int .i64 d, .int .i64 dst, .string s] w (Ret fun _ w' => Own w0 w' (NetP g K D F late c (M ++ [⟨(now : Int) + 1 + clipI delay 0 64, k, (dst, s)⟩]) (k + 1) :: ps)) := by
    rintro d rfl
    exact netput_any H hM hk _ dst s
  have FIN := Lib.hid fin
  clear fin
  go_enter Try.func15, Try.ntmps15
  by_cases h1 : delay < 0
  all_goals by_cases h2 : 64 < delay
  all_goals (try omega)
  all_goals
    go_wp2_with fail
    refine (FIN.out _ ?_).mono ?_
    · simp only [clipI]
      repeat split
      all_goals first | rfl | omega
    rintro e w2 ⟨_, rfl, H2⟩
    go_wp2
    go_end0
    exact ⟨_, rfl, H2⟩

theorem netnext_no (now : Int) (H : Own w0 w (NetP g K D F late c M k :: ps)) (hno : ∀ a ∈ M, now < a.at_) (hl : M.length ≤ 1000000) :
    Calls Try.prog 11 #[.pointer (some ⟨g, 0, none⟩), .int .i64 now] w (Ret fun v w' => v = .tuple #[.int .i64 0, .string ⟨#[]⟩, .bool false] ∧ Own w0 w' (NetP g K D F late c M k :: ps)) := by
  obtain ⟨vf, b, H⟩ := net_open H
  have HNO := Lib.hid hno
  clear hno
  go_enter Try.func11, Try.ntmps11
  go_wp2_with fail
  refine (DueP.dnext_no now H HNO.out hl).mono ?_
  rintro e w1 ⟨_, rfl, rfl, H1⟩
  go_upto_region 4 with (fail)
  replace H1 := (H1.alloc (.cells #[.int .i64 0, .string ⟨#[]⟩] 61))
  generalize w1.heap.size = pb at *
  generalize w1.alloc (.cells #[.int .i64 0, .string ⟨#[]⟩] 61) = wb at *
  refine wp_region_calm (fun w1 => Own w0 w1 (blk pb (.cells #[.int .i64 0, .string ⟨#[]⟩] 61) :: _)) 7 (by kernel_rfl) (by kernel_rfl) H1.drew ?_
  simp only [List.take_succ_cons, List.take_zero, List.drop_succ_cons, List.drop_zero]
  repeat
    first
    | (refine calm_value (v := ?_) (by decide) rfl (fun σ w1 hS => ?_) ?_
       rotate_left
       · have c0 := hS.cells
         first | (go_simp; rfl) | rfl
       simp only [Act.put, List.setIfInBounds_toArray, List.set_cons_zero, List.set_cons_succ])
    | (refine calm_skip (by decide) rfl ?_
       simp only [Act.put, List.setIfInBounds_toArray, List.set_cons_zero, List.set_cons_succ])
  refine calm_nil ?_
  intro wd HD
  clear H1
  go_wp2
  go_ret3
  exact ⟨_, rfl, rfl, net_shut HD.drop⟩

theorem netnext_yes {m : It (Int × ByteArray)} {j : Nat} (now : Int) (H : Own w0 w (NetP g K D F late c M k :: ps)) (hj : M[j]? = some m) (hm : ∀ y ∈ M, ¬ y.lt m) (hk : M.Pairwise fun x y => x.k ≠ y.k) (hno : m.at_ ≤ now) (hl : M.length ≤ 1000000) :
    Calls Try.prog 11 #[.pointer (some ⟨g, 0, none⟩), .int .i64 now] w (Ret fun v w' => v = .tuple #[.int .i64 m.x.1, .string m.x.2, .bool true] ∧ Own w0 w' (NetP g K D F late c (M.eraseIdx j) k :: ps)) := by
  obtain ⟨vf, b, H⟩ := net_open H
  have HJ := Lib.hid hj
  have HM := Lib.hid hm
  have HK := Lib.hid hk
  have HNO := Lib.hid hno
  clear hno hj hm hk
  go_enter Try.func11, Try.ntmps11
  go_wp2_with fail
  refine (DueP.dnext_yes now H HJ.out HM.out HK.out HNO.out hl).mono ?_
  rintro e w1 ⟨_, rfl, rfl, H1⟩
  go_upto_region 4 with (fail)
  replace H1 := (H1.alloc (.cells #[.int .i64 m.x.1, .string m.x.2] 61))
  generalize w1.heap.size = pb at *
  generalize w1.alloc (.cells #[.int .i64 m.x.1, .string m.x.2] 61) = wb at *
  refine wp_region_calm (fun w1 => Own w0 w1 (blk pb (.cells #[.int .i64 m.x.1, .string m.x.2] 61) :: _)) 7 (by kernel_rfl) (by kernel_rfl) H1.drew ?_
  simp only [List.take_succ_cons, List.take_zero, List.drop_succ_cons, List.drop_zero]
  repeat
    first
    | (refine calm_value (v := ?_) (by decide) rfl (fun σ w1 hS => ?_) ?_
       rotate_left
       · have c0 := hS.cells
         first | (go_simp; rfl) | rfl
       simp only [Act.put, List.setIfInBounds_toArray, List.set_cons_zero, List.set_cons_succ])
    | (refine calm_skip (by decide) rfl ?_
       simp only [Act.put, List.setIfInBounds_toArray, List.set_cons_zero, List.set_cons_succ])
  refine calm_nil ?_
  intro wd HD
  clear H1
  go_wp2
  go_ret3
  exact ⟨_, rfl, rfl, net_shut HD.drop⟩

theorem byte_int (x : Nat) (h : x < 256) : ((UInt8.ofNat x).toNat : Int) = (x : Int) := by
  simp [UInt8.toNat_ofNat']; omega
theorem strOf_two (x y : Nat) (hx : x < 256) (hy : y < 256) : strOfNums [(x : Int), (y : Int)] = ⟨#[UInt8.ofNat x, UInt8.ofNat y]⟩ := by
  simp [strOfNums]
def letterB (i : Nat) : ByteArray := ⟨#[UInt8.ofNat (i % 256), UInt8.ofNat (i / 256)]⟩
set_option maxHeartbeats 400000 in
theorem letter_any (i : Nat) (hi : i < 65536) (w : World) :
    Calls Try.prog 10 #[.int .i64 i] w (Ret fun v w' => v = .string (letterB i) ∧ Own w w' []) := by
  have H := Own.start w
  have hr : ∀ wz : World, (convert 59 9 (.slice (some ⟨wz.heap.size, 0, none⟩) 2 2)).run Try.prog (wz.alloc (.cells #[.int .u8 ((i : Int) % 256), .int .u8 ((i : Int) / 256)] 5)) = .ok (.string ⟨#[UInt8.ofNat (i % 256), UInt8.ofNat (i / 256)]⟩) (wz.alloc (.cells #[.int .u8 ((i : Int) % 256), .int .u8 ((i : Int) / 256)] 5)) := by
    intro wz
    have h1 := (((Own.start wz).alloc (.cells #[.int .u8 ((i : Int) % 256), .int .u8 ((i : Int) / 256)] 5)).slc_mk (xs := [((i % 256 : Nat) : Int), ((i / 256 : Nat) : Int)].map (.int .u8)) (n := 2) (size := 1) (by simp) (Nat.le_refl _) (by decide) rfl (by simp)).rd
    have h2 := run_string_sep (P := Try.prog) 59 9 Try.underlying59 Try.underlying5 Try.underlying9 h1
    rw [h2, strOf_two _ _ (by omega) (by omega)]
  go_enter Try.func10, Try.ntmps10
  go_wp2
  go_ret
  exact ⟨_, rfl, rfl, H.alloc' _⟩
end
end Go.Proofs.Ytnpflnplpipipaa
