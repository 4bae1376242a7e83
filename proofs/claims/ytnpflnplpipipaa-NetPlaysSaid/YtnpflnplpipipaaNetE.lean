/-
  net: the walk of Send.
-/
import Derived.Test.YtnpflnplpipipaaNetD
namespace Go.Proofs.Ytnpflnplpipipaa
open Go.RowKit Go.Maps

def itA (now dst : Int) (s : ByteArray) (k : Nat) (d : Int) (i : Nat) : It (Int × ByteArray) := ⟨now + 1 + d + (i : Int), (k : Int) + (i : Int), (dst, s)⟩
theorem itemsOf_eq (now dst : Int) (s : ByteArray) (k : Nat) (f : Fa) : itemsOf now dst s k f = if f.drop then [] else (List.range (f.copies.toNat + 1)).map (itA now dst s k f.delay) := rfl

section
variable {w0 w : World} {ps : List Piece} {g : Nat} {K D : Int} {F : List Fa} {late : Int × Int → Int} {c : Nat} {M : List (It (Int × ByteArray))} {k : Nat}

set_option maxRecDepth 100000 in
set_option maxHeartbeats 3200000 in
theorem netsend_any (H : Own w0 w (NetP g K D F late c M k :: ps)) {now : Nat} (hnow : now ≤ 1000) (dst cl : Int) (hc1 : In64 dst) (hc2 : In64 cl) (s : ByteArray) (hD : 0 ≤ D) (hD2 : D ≤ 64) (hK : 0 ≤ K) (hK2 : K ≤ 9223372036854775807) (hn : c ≤ 1000000)
    (hl0 : 0 ≤ late (dst, cl)) (hl : late (dst, cl) ≤ 1000000) (hM : M.length ≤ 5000) (hk : k ≤ 500000) (hF : F.length ≤ 1000000) :
    Calls Try.prog 9 #[.pointer (some ⟨g, 0, none⟩), .int .i64 now, .int .i64 dst, .int .i64 cl, .string s] w
      (Ret fun v w' => v = fval (boundF K D (late (dst, cl)) (fateOf F)) ∧ Own w0 w' (NetP g K D F.tail (lateF K D (dst, cl) (boundF K D (late (dst, cl)) (fateOf F)) late) (c + 1) (M ++ itemsOf now dst s k (boundF K D (late (dst, cl)) (fateOf F))) (k + (itemsOf now dst s k (boundF K D (late (dst, cl)) (fateOf F))).length) :: ps)) := by
  obtain ⟨f, hf⟩ : ∃ f, Hid (boundF K D (late (dst, cl)) (fateOf F) = f) := ⟨_, rfl⟩
  have hok : FOk f := by rw [← hf.out]; exact boundF_ok (fateOf_ok F) hD hD2
  have hbd := fun (qs : List Piece) (wz : World) (h : Own w0 wz (NetP g K D F.tail late c M k :: qs)) => netbound_any h (dst, cl) hc1 hc2 (fateOf F) (fateOf_ok F) hD hD2 hK hK2 hn hl0 hl
  rw [hf.out]
  simp only [hf.out] at hbd
  have HBD := Lib.hid hbd
  obtain ⟨L2, hL2⟩ : ∃ L, Hid (lateF K D (dst, cl) f late = L) := ⟨_, rfl⟩
  rw [hL2.out]
  clear hbd
  obtain ⟨o1, o2, o3, o4⟩ := hok
  obtain ⟨fd, fy, fc⟩ := f
  simp only at o1 o2 o3 o4
  obtain ⟨rr, hrr⟩ : ∃ rr, Hid (k2 (dst, cl) = rr) := ⟨_, rfl⟩
  go_enter Try.func9, Try.ntmps9
  go_upto_region 1 with (fail)
  replace H := (H.alloc (.cells #[.bool false, .int .i64 0, .int .i64 0] 30)).swap
  generalize w.heap.size = rc at *
  generalize w.alloc (.cells #[.bool false, .int .i64 0, .int .i64 0] 30) = wa at *
  go_upto_region 3 with (fail)
  go_wp2_with fail
  refine (netfate_any H hF).mono ?_
  rintro e w1 ⟨_, rfl, rfl, H1⟩
  clear H
  go_wp2_with fail
  refine (HBD.out _ _ H1).mono ?_
  rintro e w2 ⟨_, rfl, rfl, H⟩
  clear H1 HBD
  rw [hL2.out] at H
  simp only [fval]
  go_upto_region 4 with (fail)
  replace H := (H.alloc (.cells #[.bool fd, .int .i64 fy, .int .i64 fc] 30)).swap
  generalize w2.heap.size = fb at *
  generalize w2.alloc (.cells #[.bool fd, .int .i64 fy, .int .i64 fc] 30) = wb at *
  have c1 := (H.front 1 rfl).cells
  cases fd with
  | true =>
    go_wp2_with (refine wpList_store_blk rfl _ _ rfl rfl (H.front 2 rfl) [.bool true, .int .i64 fy, .int .i64 fc] rfl (by kernel_rfl) (by simp) (by simp [Value.oneCell']) _ rfl ?_; clear H c1; intro w6 H)
    refine bodyPost_ret (results_cell_row rfl _ _ rc _ _ _ _ rfl H.block.1 Try.underlying30 rfl (by kernel_rfl)) rfl ?_
    exact ⟨_, rfl, rfl, by simpa [itemsOf] using (((H.front 2 rfl).front 1 rfl).drop.drop)⟩
  | false =>
    obtain ⟨n, rfl⟩ : ∃ n : Nat, fc = n := ⟨fc.toNat, by omega⟩
    have e1 : itemsOf now dst s k ⟨false, fy, n⟩ = (List.range (n + 1)).map (itA now dst s k fy) := by
      rw [itemsOf_eq]; simp
    have E1 := Lib.hid e1
    clear e1
    go_wp2_with fail
    go_loopw [29] (fun i wx => ∃ (j : Nat), j ≤ n + 1 ∧ i = .int .i64 j ∧ Own w0 wx (NetP g K D F.tail L2 (c + 1) (M ++ (List.range j).map (itA now dst s k fy)) (k + j) :: blk fb (.cells #[.bool false, .int .i64 fy, .int .i64 n] 30) :: blk rc (.cells #[.bool false, .int .i64 0, .int .i64 0] 30) :: ps)) (fun i _ => n + 1 - (intOf i).toNat)
    case atStart => exact ⟨0, by omega, rfl, by simpa using H⟩
    case round =>
      clear H c1
      obtain ⟨j, hj, rfl, H⟩ := hrel
      have c1 := (H.front 1 rfl).cells
      by_cases hlt : j < n + 1
      · go_wp2_with fail
        refine (netput_any H (by simp; omega) (by omega) ((now : Int) + 1 + fy + (j : Int)) dst s).mono ?_
        rintro e w3 ⟨_, rfl, H3⟩
        clear H c1
        go_wp2
        go_roundw
        case rel => exact ⟨j + 1, by omega, by go_num, by
          have e2 : M ++ (List.range (j + 1)).map (itA now dst s k fy) = M ++ (List.range j).map (itA now dst s k fy) ++ [⟨(now : Int) + 1 + fy + (j : Int), ((k + j : Nat) : Int), (dst, s)⟩] := by
            rw [List.range_succ, List.map_append, List.append_assoc]
            simp [itA]
          rw [e2, ← Nat.add_assoc]
          exact H3⟩
        case measure => simp [intOf]; omega
      · obtain rfl : j = n + 1 := by omega
        go_wp2_with (refine wpList_store_blk rfl _ _ rfl rfl (H.front 2 rfl) [.bool false, .int .i64 fy, .int .i64 n] rfl (by kernel_rfl) (by simp) (by simp [Value.oneCell']) _ rfl ?_; clear H c1; intro w6 H)
        refine bodyPost_ret (results_cell_row rfl _ _ rc _ _ _ _ rfl H.block.1 Try.underlying30 rfl (by kernel_rfl)) rfl ?_
        refine ⟨_, rfl, rfl, ?_⟩
        rw [E1.out, List.length_map, List.length_range]
        exact (((H.front 2 rfl).front 1 rfl).drop.drop)
end
end Go.Proofs.Ytnpflnplpipipaa
