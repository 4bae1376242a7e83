/-
  net: the walks of Fates, fate, put, Inject, Next.
-/
import Derived.Test.YtnpflnplpipipaaNetA
namespace Go.Proofs.Ytnpflnplpipipaa
open Go.RowKit Go.Maps

section
variable {w0 w : World} {ps : List Piece} {g : Nat} {K D : Int} {F : List Fa} {late : Int × Int → Int} {c : Nat} {M : List (It (Int × ByteArray))} {k : Nat}

set_option maxHeartbeats 800000 in
theorem netfates_any (H : Own w0 w (NetP g K D F late c M k :: ps)) (L : List Fa) {v : Value} (hr : Rd w 3 v L.length (rows fcell L)) (hl : F.length + L.length ≤ 100000) :
    Calls Try.prog 8 #[.pointer (some ⟨g, 0, none⟩), v] w (Ret fun _ w' => Own w0 w' (NetP g K D (F ++ L) late c M k :: ps)) := by
  obtain ⟨vf, b, H⟩ := net_open H
  obtain ⟨a, cp, rfl, _⟩ := (H.front 1 rfl).drd.shape
  obtain ⟨m, vd, hh, hp, H⟩ := dq_blk H
  obtain ⟨a1, cp1, rfl, _⟩ := hr.shape
  have HH := Lib.hid hh
  have HP := Lib.hid hp
  clear hh hp
  obtain ⟨n, hn⟩ : ∃ n, Hid (F.length = n) := ⟨_, rfl⟩
  obtain ⟨n1, hn1⟩ : ∃ n, Hid (L.length = n) := ⟨_, rfl⟩
  rw [hn.out] at H hl
  rw [hn1.out] at hl hr
  rw [hn1.out]
  have c0 := H.cells
  have h1 : ∀ u ∈ rows fcell L, u.oneCell' = true := by
    intro u hu
    obtain ⟨x, _, hx⟩ := List.mem_flatMap.1 hu
    exact fcell_one x u hx
  have HR := Lib.hid hr
  have H1 := Lib.hid h1
  clear hr h1
  go_enter Try.func8, Try.ntmps8
  go_wp2_with (first
    | (at_builtin; refine wpList_append_sld rfl _ _ rfl Try.underlying24 fateInfo rfl (by decide) rfl (H.front 2 rfl) HR.out H1.out (by omega) (by omega) ?_; clear H c0 HR; intro v' w' H; replace H := H.swap; obtain ⟨a2, cp2, rfl, _⟩ := (H.front 1 rfl).drd.shape)
    | (refine wpList_store_slice rfl _ _ rfl rfl H rfl (by kernel_rfl) (by simp) ?_; clear H; intro w5 H))
  go_end0
  refine ⟨_, rfl, net_shut (v := .slice a2 (n + n1) cp2) (b := b) (dq_unblk (m := m) (v := vd) HH.out HP.out ?_)⟩
  rw [List.length_append, rows_append, hn.out, hn1.out]
  exact (((H.front 2 rfl).front 1 rfl))


theorem Own.dtail_one {e : TypeId} {size n g o cap : Nat} {x xs : List Value} (h : Own w0 w (sld e size (.slice (some ⟨g, o, none⟩) (n + 1) cap) (n + 1) (x ++ xs) :: ps)) (hx : x.length = size) :
    Own w0 w (sld e size (.slice (if cap = 1 then some ⟨g, o, none⟩ else some ⟨g, o + size, none⟩) n (cap - 1)) n xs :: ps) := by
  by_cases hc : cap = 1
  · subst hc
    rcases h.sld_cases with ⟨hv, _⟩ | ⟨g', o', cap', cur, hv, hl, h1, h2, h3, h4, h5⟩
    · cases hv
    · cases hv
      have hn : n = 0 := by omega
      subst hn
      have hx : xs = [] := by
        rw [List.length_append, hx] at hl
        exact List.eq_nil_of_length_eq_zero (by omega)
      subst hx
      exact h5.sld_mk (by simp) (by omega) (by simp [maxLen]) (by omega) (by simp)
  · have := h.dtail (k := 1) (by omega)
    simpa [hc, ← hx] using this
theorem fval_agg (f : Fa) : fval f = .agg (fcell f).toArray := rfl

set_option maxRecDepth 100000 in
set_option maxHeartbeats 1600000 in
theorem netfate_any (H : Own w0 w (NetP g K D F late c M k :: ps)) (hl : F.length ≤ 1000000) :
    Calls Try.prog 20 #[.pointer (some ⟨g, 0, none⟩)] w (Ret fun v w' => v = fval (fateOf F) ∧ Own w0 w' (NetP g K D F.tail late c M k :: ps)) := by
  obtain ⟨vf, b, H⟩ := net_open H
  obtain ⟨m, vd, hh, hp, H⟩ := dq_blk H
  have HH := Lib.hid hh
  have HP := Lib.hid hp
  clear hh hp
  have fin : ∀ (wz : World) (v : Value) (F' : List Fa), Own w0 wz (blk g (.cells #[.int .i64 K, .int .i64 D, v, .map (some b), vd, .int .i64 k] 54) :: slc 73 4 vd m.length (rows DueP.icell m) :: sld 30 3 v F'.length (rows fcell F') :: mpi Try.prog 56 3 k2 b c late :: ps) → Own w0 wz (NetP g K D F' late c M k :: ps) := fun wz v F' h => net_shut (dq_unblk HH.out HP.out h)
  have FIN := Lib.hid fin
  clear fin HH HP
  go_enter Try.func20, Try.ntmps20
  go_upto_region 1 with (fail)
  replace H := H.alloc (.cells #[.bool false, .int .i64 0, .int .i64 0] 30)
  generalize w.heap.size = rc at *
  generalize w.alloc (.cells #[.bool false, .int .i64 0, .int .i64 0] 30) = wa at *
  cases F with
  | nil =>
    obtain ⟨a, cp, rfl, _⟩ := (H.front 3 rfl).drd.shape
    have c0 := (H.front 1 rfl).cells
    go_wp2_with (refine wpList_store_agg (vs := [.bool false, .int .i64 0, .int .i64 0]) rfl _ _ rfl rfl H rfl (by kernel_rfl) (by simp) (by simp [Value.oneCell']) rfl ?_; clear H c0; intro w5 H)
    refine bodyPost_ret (results_cell_row rfl _ _ rc _ _ _ _ rfl H.block.1 Try.underlying30 rfl (by kernel_rfl)) rfl ?_
    exact ⟨_, rfl, rfl, FIN.out _ (.slice a 0 cp) [] H.drop⟩
  | cons f F =>
    obtain ⟨n, hn⟩ : ∃ n, Hid (F.length = n) := ⟨_, rfl⟩
    have hnl : (f :: F).length = n + 1 := by rw [List.length_cons, hn.out]
    rw [hnl] at H hl
    obtain ⟨b1, o1, cp, rfl, _⟩ := (H.front 3 rfl).drd.some (by rw [rows_length fcell fcell_length]; simp)
    have c0 := (H.front 1 rfl).cells
    have hr := (H.front 3 rfl).drd
    have r0 := hr.cell ((rows_get fcell fcell_length (l := f :: F) (i := 0) rfl 0 (by omega)).trans rfl)
    have r1 := hr.cell ((rows_get fcell fcell_length (l := f :: F) (i := 0) rfl 1 (by omega)).trans rfl)
    have r2 := hr.cell ((rows_get fcell fcell_length (l := f :: F) (i := 0) rfl 2 (by omega)).trans rfl)
    simp only [Nat.zero_mul, Nat.zero_add, Nat.add_zero] at r0 r1 r2
    clear hr
    obtain ⟨fd, fy, fc⟩ := f
    simp only at r0 r1 r2
    go_upto_region 4 with (fail)
    have hx : rows fcell (⟨fd, fy, fc⟩ :: F) = fcell ⟨fd, fy, fc⟩ ++ rows fcell F := rfl
    rw [hx] at H
    replace H := ((H.front 3 rfl))
    replace H := H.dtail_one rfl
    replace H := ((((H.front 3 rfl).front 3 rfl).front 3 rfl))
    obtain ⟨fb, hfb⟩ : ∃ fb, wa.heap.size = fb := ⟨_, rfl⟩
    replace H := (H.alloc (.cells #[.bool fd, .int .i64 fy, .int .i64 fc] 30))
    rw [hfb] at H ⊢
    generalize wa.alloc (.cells #[.bool fd, .int .i64 fy, .int .i64 fc] 30) = wb at *
    clear hfb r0 r1 r2 c0
    have c0 := (H.front 2 rfl).cells
    have c1 := H.cells
    obtain ⟨va, hva⟩ : ∃ va, Hid ((if cp = 1 then some (⟨b1, o1, none⟩ : Addr) else some ⟨b1, o1 + 3, none⟩) = va) := ⟨_, rfl⟩
    rw [hva.out] at H
    go_upto_region 5 with (refine wpList_store_slice rfl _ _ rfl rfl (H.front 2 rfl) rfl (by kernel_rfl) (by simp) ?_; clear H; intro w5 H)
    rw [hva.out] at H ⊢
    have H : Own w0 w5 (blk g (.cells #[.int .i64 K, .int .i64 D, .slice va n (cp - 1), .map (some b), vd, .int .i64 k] 54) :: blk fb (.cells #[.bool fd, .int .i64 fy, .int .i64 fc] 30) :: blk rc (.cells #[.bool false, .int .i64 0, .int .i64 0] 30) :: slc 73 4 vd m.length (rows DueP.icell m) :: sld 30 3 (.slice va n (cp - 1)) n (rows fcell F) :: mpi Try.prog 56 3 k2 b c late :: ps) := H
    clear c0 c1 hva
    have c1 := (H.front 1 rfl).cells
    replace H := (((H.front 2 rfl).front 2 rfl).drop)
    have hfin : ∀ wz, Own w0 wz (blk g (.cells #[.int .i64 K, .int .i64 D, .slice va n (cp - 1), .map (some b), vd, .int .i64 k] 54) :: slc 73 4 vd m.length (rows DueP.icell m) :: sld 30 3 (.slice va n (cp - 1)) n (rows fcell F) :: mpi Try.prog 56 3 k2 b c late :: ps) → Own w0 wz (NetP g K D F late c M k :: ps) := fun wz h => FIN.out _ _ F (by rw [hn.out]; exact h)
    have HF := Lib.hid hfin
    clear hfin
    by_cases h1 : fy < 0
    all_goals by_cases h2 : 64 < fy
    all_goals by_cases h3 : fc < 0
    all_goals by_cases h4 : 3 < fc
    all_goals (try omega)
    all_goals
      go_wp2_with (refine wpList_store_blk rfl _ _ rfl rfl H [.bool fd, .int .i64 _, .int .i64 _] rfl (by kernel_rfl) (by simp) (by simp [Value.oneCell']) _ rfl ?_; clear H c1; intro w6 H)
      refine bodyPost_ret (results_cell_row rfl _ _ rc _ _ _ _ rfl H.block.1 Try.underlying30 rfl (by kernel_rfl)) rfl ?_
      refine ⟨_, rfl, ?_, HF.out _ H.drop⟩
      simp [fval, fateOf, clipI]
      repeat split
      all_goals first | rfl | omega | skip
end
end Go.Proofs.Ytnpflnplpipipaa
