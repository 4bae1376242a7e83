/-
  net, the document's answer: the walks of put, Inject, late.
-/
import Derived.Test.YtnpflnplpipipaaNetR
namespace Go.Proofs.Ytnpflnplpipipaa
open Go.RowKit Go.Maps

section
variable {w0 w : World} {ps : List Piece} {g : Nat} {K D : Int} {F : List Fa} {late : Int × Int → Int} {m : Nat} {M : List (It (Int × ByteArray))}

set_option maxHeartbeats 800000 in
theorem rput_any (H : Own w0 w (RNetP g K D F late m M :: ps)) (hM : M.length ≤ 10000) (at_ dst : Int) (s : ByteArray) (k : Int) :
    Calls Try.prog 26 #[.pointer (some ⟨g, 0, none⟩), .int .i64 at_, .int .i64 dst, .string s] w (Ret fun _ w' => Own w0 w' (RNetP g K D F late m (M ++ [⟨at_, k, (dst, s)⟩]) :: ps)) := by
  obtain ⟨v, u, z, L, hL, hm, H⟩ := rnet_open H
  obtain ⟨az, cz, rfl, _⟩ := (H.front 3 rfl).rd.shape
  obtain ⟨n, hn⟩ : ∃ n, Hid (M.length = n) := ⟨_, rfl⟩
  rw [hn.out] at hM H
  have hn1 : (n : Int) < 16384 := by omega
  have HL := Lib.hid hL
  clear hL
  have c0 := H.cells
  go_enter Try.func26, Try.ntmps26
  go_wp2_with (first
    | (refine wpList_append_one rfl _ _ rfl Try.underlying45 parcelInfo rfl (by decide) rfl (H.front 3 rfl) (news := pcell ⟨at_, k, (dst, s)⟩) rfl rfl rfl (pcell_one _) (by omega) (by omega) ?_; clear H c0; intro v' w' H; replace H := H.swap; obtain ⟨a2, cp2, rfl, _⟩ := (H.front 1 rfl).rd.shape)
    | (refine wpList_store_slice rfl _ _ rfl rfl H rfl (by kernel_rfl) (by simp) ?_; clear H; intro w5 H))
  go_end0
  refine ⟨_, rfl, rnet_shut (v := v) (u := u) (z := .slice a2 (n + 1) cp2) HL.out hm ?_⟩
  rw [List.length_append, rows_append, rows_one, hn.out]
  exact ((((H.front 3 rfl).front 3 rfl).front 2 rfl))

theorem rinject_any (H : Own w0 w (RNetP g K D F late m M :: ps)) (hM : M.length ≤ 10000) {now : Nat} (hnow : now ≤ 1000) (dst delay : Int) (s : ByteArray) (k : Int) :
    Calls Try.prog 16 #[.pointer (some ⟨g, 0, none⟩), .int .i64 now, .int .i64 dst, .int .i64 delay, .string s] w (Ret fun _ w' => Own w0 w' (RNetP g K D F late m (M ++ [⟨(now : Int) + 1 + clipI delay 0 64, k, (dst, s)⟩]) :: ps)) := by
  have hb := clipI_bounds (n := delay) (lo := 0) (hi := 64) (by omega)
  obtain ⟨d, hd⟩ : ∃ d, Hid (clipI delay 0 64 = d) := ⟨_, rfl⟩
  rw [hd.out] at hb ⊢
  obtain ⟨hb0, hb1⟩ := hb
  go_enter Try.func16, Try.ntmps16
  go_wp2_with fail
  refine (rclip_any delay 0 64 _).mono ?_
  rintro e w1 ⟨rfl, rfl⟩
  rw [hd.out]
  go_wp2_with fail
  refine (rput_any H hM ((now : Int) + 1 + d) dst s k).mono ?_
  rintro e w2 ⟨_, rfl, H2⟩
  go_wp2
  go_end0
  exact ⟨_, rfl, H2⟩

/-- The place of a class. -/
def RLateQ (w0 : World) (ps : List Piece) (g : Nat) (K D : Int) (v z : Value) (F : List Fa) (late : Int × Int → Int) (M : List (It (Int × ByteArray))) (m : Nat) (d e : Int) (r : Value) (w' : World) : Prop :=
  ∃ (i : Nat) (u' : Value) (L' : List Lt), r = .int .i64 i ∧ (∀ c, lookL L' c = late c) ∧ L'.length ≤ m ∧ L'[i]? = some ⟨d, e, late (d, e)⟩ ∧ (∀ j y, j < i → L'[j]? = some y → (y.dst, y.cl) ≠ (d, e)) ∧
      Own w0 w' (blk g (.cells #[.int .i64 K, .int .i64 D, v, u', z] 47) :: sld 30 3 v F.length (rows fcell F) :: slc 67 3 u' L'.length (rows lcell L') :: slc 69 3 z M.length (rows pcell M) :: ps)

set_option maxHeartbeats 1600000 in
theorem rlate_any {v u z : Value} {L : List Lt} (hL : ∀ c, lookL L c = late c) (hl : L.length ≤ 100000) (d e : Int)
    (H : Own w0 w (blk g (.cells #[.int .i64 K, .int .i64 D, v, u, z] 47) :: sld 30 3 v F.length (rows fcell F) :: slc 67 3 u L.length (rows lcell L) :: slc 69 3 z M.length (rows pcell M) :: ps)) :
    Calls Try.prog 25 #[.pointer (some ⟨g, 0, none⟩), .int .i64 d, .int .i64 e] w (Ret (RLateQ w0 ps g K D v z F late M (L.length + 1) d e)) := by
  obtain ⟨au, cu, rfl, hu1, hu2⟩ := (H.front 2 rfl).rd.shape
  obtain ⟨n, hn⟩ : ∃ n, Hid (L.length = n) := ⟨_, rfl⟩
  rw [hn.out] at hl H hu1 ⊢
  have HL := Lib.hid hL
  clear hL
  go_enter Try.func25, Try.ntmps25
  have c0 := H.cells
  go_wp2_with fail
  go_loop [7] (fun s7 => ∃ (i : Nat), i ≤ n ∧ s7 = .int .i64 i ∧ Hid (∀ j y, j < i → L[j]? = some y → (y.dst, y.cl) ≠ (d, e))) (fun s7 => n - (intOf s7).toNat)
  case atStart => exact ⟨0, by omega, rfl, Lib.hid (fun j y hj => by omega)⟩
  case round =>
    obtain ⟨i, hi, rfl, hbe⟩ := hrel
    by_cases hin : i < n
    · obtain ⟨x, hx⟩ := get_of_lt (l := L) (k := i) (by rw [hn.out]; exact hin)
      have hrd := (H.front 2 rfl).rd
      obtain ⟨bt, ot, ct, e4, hct1, hct2⟩ := hrd.some (by rw [rows_length lcell lcell_length, hn.out]; omega)
      cases e4
      have r0 := hrd.cell ((rows_get lcell lcell_length hx 0 (by omega)).trans rfl)
      have r1 := hrd.cell ((rows_get lcell lcell_length hx 1 (by omega)).trans rfl)
      simp only [Nat.add_zero, ← Nat.add_assoc] at r0 r1
      have HX := Lib.hid hx
      clear hrd hx
      by_cases h1 : x.dst = d
      · by_cases h2 : x.cl = e
        · have h1' : (x.dst == d) = true := by simp [h1]
          have h2' : (x.cl == e) = true := by simp [h2]
          have hat : L[i]? = some ⟨d, e, late (d, e)⟩ := by
            have hb : ∀ j y, j < i → L[j]? = some y → (y.dst, y.cl) ≠ (x.dst, x.cl) := by rw [h1, h2]; exact hbe.out
            have := lookL_at HX.out hb
            rw [HL.out, h1, h2] at this
            rw [HX.out, this, ← h1, ← h2]
          have HAT := Lib.hid hat
          clear hat h1 h2
          go_wp2
          go_ret
          exact ⟨_, rfl, i, _, L, rfl, HL.out, by rw [hn.out]; omega, HAT.out, hbe.out, by rw [hn.out]; exact H⟩
        · have h1' : (x.dst == d) = true := by simp [h1]
          have h2' : (x.cl == e) = false := by simp [h2]
          have hb2 : Hid (∀ j y, j < i + 1 → L[j]? = some y → (y.dst, y.cl) ≠ (d, e)) := Lib.hid fun j y hj hy => by
            rcases Nat.lt_or_ge j i with hlt | hge
            · exact hbe.out j y hlt hy
            · obtain rfl : j = i := by omega
              rw [HX.out] at hy
              obtain rfl := Option.some.inj hy
              simp [h2]
          clear h1 h2
          go_wp2
          go_round
          case rel => exact ⟨i + 1, by omega, by go_num, hb2⟩
          case measure => simp [intOf]; omega
      · have h1' : (x.dst == d) = false := by simp [h1]
        have hb2 : Hid (∀ j y, j < i + 1 → L[j]? = some y → (y.dst, y.cl) ≠ (d, e)) := Lib.hid fun j y hj hy => by
          rcases Nat.lt_or_ge j i with hlt | hge
          · exact hbe.out j y hlt hy
          · obtain rfl : j = i := by omega
            rw [HX.out] at hy
            obtain rfl := Option.some.inj hy
            simp [h1]
        clear h1
        go_wp2
        go_round
        case rel => exact ⟨i + 1, by omega, by go_num, hb2⟩
        case measure => simp [intOf]; omega
    · have : i = n := by omega
      subst this
      have hno : ∀ y ∈ L, (y.dst, y.cl) ≠ (d, e) := fun y hy => by
        obtain ⟨j, hj, rfl⟩ := List.getElem_of_mem hy
        exact hbe.out j _ (by rw [← hn.out]; exact hj) (List.getElem?_eq_getElem hj)
      have hl0 : late (d, e) = 0 := by rw [← HL.out]; exact lookL_none hno
      have HL0 := Lib.hid hl0
      clear hl0 hno
      go_wp2_with (first
        | (refine wpList_append_one rfl _ _ rfl Try.underlying44 lateInfo rfl (by decide) rfl (H.front 2 rfl) (news := lcell ⟨d, e, 0⟩) rfl rfl rfl (lcell_one _) (by omega) (by omega) ?_; clear H c0; intro v' w' H; replace H := H.swap; obtain ⟨a2, cp2, rfl, hp1, hp2⟩ := (H.front 1 rfl).rd.shape)
        | (refine wpList_store_slice rfl _ _ rfl rfl H rfl (by kernel_rfl) (by simp) ?_; clear H; intro w5 H; have c0 := H.cells))
      go_ret
      refine ⟨_, rfl, i, .slice a2 (i + 1) cp2, L ++ [⟨d, e, 0⟩], by go_num, fun c => by rw [lookL_snoc]; exact HL.out c, by rw [List.length_append, hn.out]; exact Nat.le_refl _, ?_, ?_, ?_⟩
      · rw [List.getElem?_append_right (by have := hn.out; omega), hn.out, HL0.out]; simp
      · intro j y hj hy
        rw [List.getElem?_append_left (by have := hn.out; omega)] at hy
        exact hbe.out j y hj hy
      · rw [List.length_append, rows_append, rows_one, hn.out]
        exact (((H.front 2 rfl).front 1 rfl))
end
end Go.Proofs.Ytnpflnplpipipaa
