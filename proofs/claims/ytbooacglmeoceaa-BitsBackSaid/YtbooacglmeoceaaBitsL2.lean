/-
  Bits: the walk of 'some'.
-/
import Derived.Test.YtbooacglmeoceaaBitsL
namespace Go.Proofs.Ytbooacglmeoceaa
open Go.RowKit

theorem ddInfo : (Try.prog.info? 34).map (fun i => (i.zero, i.size, i.bytes)) = some (some (.agg #[.int .i64 0, .int .i64 0, .int .i64 0, .string ByteArray.empty]), 4, 40) := by kernel_rfl
def Dd.trim (d : Dd) : Dd := if d.s.size > 100 then { d with s := d.s.extract 0 100 } else d
def some60 (ds : List Dd) : List Dd := (ds.take 60).map Dd.trim
structure Dd.Okay (d : Dd) : Prop where
  k : I64 d.k
  v : I64 d.v
  n : I64 d.n
theorem Dd.trim_ok {d : Dd} (h : d.Okay) : d.trim.Ok := by
  unfold trim
  split
  · exact ⟨h.k, h.v, h.n, by simp [ByteArray.size_extract]; omega⟩
  · exact ⟨h.k, h.v, h.n, by omega⟩
theorem some60_ok {ds : List Dd} (h : ∀ d ∈ ds, d.Okay) : ∀ d ∈ some60 ds, d.Ok := by
  intro d hd
  obtain ⟨x, hx, rfl⟩ := List.mem_map.1 hd
  exact Dd.trim_ok (h x (List.mem_of_mem_take hx))

theorem dd_at {w : World} {v : Value} {n : Nat} {ds : List Dd} (hr : Rd w 4 v n (ddcells ds)) {k : Nat} {d : Dd} (hd : ds[k]? = some d) :
    ∃ b o c, v = .slice (some ⟨b, o, none⟩) n c ∧ w.cell? ⟨b, o + k * 4, none⟩ = some (.int .i64 d.k) ∧ w.cell? ⟨b, o + k * 4 + 1, none⟩ = some (.int .i64 d.v) ∧ w.cell? ⟨b, o + k * 4 + 2, none⟩ = some (.int .i64 d.n) ∧ w.cell? ⟨b, o + k * 4 + 3, none⟩ = some (.string d.s) := by
  have hk := (List.getElem?_eq_some_iff.1 hd).1
  obtain ⟨b, o, c, e, _, _, hc⟩ := hr.at (by rw [ddcells_length]; omega)
  obtain ⟨g0, g1, g2, g3⟩ := ddcells_get ds k d hd
  have c1 := hc _ _ g1
  have c2 := hc _ _ g2
  have c3 := hc _ _ g3
  rw [← Nat.add_assoc] at c1 c2 c3
  exact ⟨b, o, c, e, hc _ _ g0, c1, c2, c3⟩

set_option maxHeartbeats 800000 in
theorem some_any (v : Value) (n : Nat) (ds : List Dd) (hds : ∀ d ∈ ds, d.Okay) (w : World) (hr : Rd w 4 v n (ddcells ds)) :
    Calls Try.prog 7 #[v] w (Ret fun v w' => Own w w' [slc 34 4 v (some60 ds).length (ddcells (some60 ds))]) := by
  have hlen : Hid (n = ds.length) := by have := hr.len; rw [ddcells_length] at this; exact Lib.hid (by omega)
  have HR := Lib.hid hr
  obtain ⟨a0, cap, rfl, hn1, hn2⟩ := hr.shape
  clear hr
  go_enter Try.func7, Try.ntmps7
  go_wp2_with fail
  go_loopw [3, 4] (fun v i wx => ∃ k : Nat, k ≤ n ∧ k ≤ 60 ∧ i = .int .i64 k ∧ Own w wx [slc 34 4 v k (ddcells ((ds.take k).map Dd.trim))]) (fun _ i _ => 60 - (intOf i).toNat)
  case atStart => exact ⟨0, Nat.zero_le _, Nat.zero_le _, rfl, by simpa [ddcells] using (Own.start w).nil 34 4⟩
  case round =>
    obtain ⟨k, hk, hk3, rfl, H⟩ := hrel
    obtain ⟨a1, cp1, rfl, hd1, hd2⟩ := H.rd.shape
    by_cases hlt : k < n ∧ k < 60
    · obtain ⟨hlt, hl3⟩ := hlt
      have hkl : k < ds.length := by have := hlen.out; omega
      obtain ⟨d, hd⟩ : ∃ d, Hid (ds[k]? = some d) := ⟨ds[k], Lib.hid (List.getElem?_eq_getElem hkl)⟩
      have hdok := hds d (List.mem_of_getElem? hd.out)
      have hnext : Hid ((ds.take (k + 1)).map Dd.trim = (ds.take k).map Dd.trim ++ [d.trim]) := Lib.hid (by rw [List.take_add_one, hd.out]; simp)
      obtain ⟨b, o, _, e, c0, c1, c2, c3⟩ := dd_at (HR.out.old H) hd.out
      cases e
      obtain ⟨dk, dv, dn, s⟩ := d
      simp only at c0 c1 c2 c3
      go_upto_region 6 with (fail)
      replace H := H.alloc (.cells #[.int .i64 dk, .int .i64 dv, .int .i64 dn, .string s] 34)
      obtain ⟨gx, hgx⟩ : ∃ g, wr.heap.size = g := ⟨_, rfl⟩
      rw [hgx] at H ⊢
      generalize World.alloc wr _ = w1 at *
      clear hgx c0 c1 c2 c3
      obtain ⟨t, ht⟩ : ∃ t, Hid ((if s.size > 100 then s.extract 0 100 else s) = t) := ⟨_, rfl⟩
      have htr : Hid ((Dd.mk dk dv dn s).trim = Dd.mk dk dv dn t) := Lib.hid (by unfold Dd.trim; rw [← ht.out]; simp only; split <;> rfl)
      have c0 := H.cells
      go_upto_if 23 with (fail)
      go_cut [] (fun wx => Own w wx [blk gx (.cells #[.int .i64 dk, .int .i64 dv, .int .i64 dn, .string t] 34), slc 34 4 (.slice a1 k cp1) k (ddcells ((ds.take k).map Dd.trim))])
      case first =>
        by_cases hb : s.size > 100
        · have ht2 : s.extract 0 100 = t := by rw [← ht.out, if_pos hb]
          have hb2 : (100 : Int) < (s.size : Int) := by omega
          have hb3 : (100 : Int) ≤ (s.size : Int) := by omega
          go_wp2_with (refine wpList_store_string rfl _ _ rfl rfl H rfl (by kernel_rfl) (by simp) ?_; clear H c0; intro w2 H)
          go_meet
          simpa using H
        · have ht2 : s = t := by rw [← ht.out, if_neg hb]
          have hb2 : (s.size : Int) ≤ 100 := by omega
          go_wp2
          go_meet
          rw [← ht2]
          exact H
      case rest =>
        clear H c0
        have H := hcut
        clear hcut
        have c0 := H.cells
        go_wp2_with (at_builtin; refine wpList_append_one rfl _ _ rfl Try.underlying22 ddInfo rfl (by decide) rfl H.drop (news := [.int .i64 dk, .int .i64 dv, .int .i64 dn, .string t]) rfl rfl rfl (by simp [Value.oneCell']) (by omega) (by omega) ?_; clear H c0; intro v' w' H; obtain ⟨a', c', rfl, h1', h2'⟩ := H.rd.shape)
        go_round
        case rel => exact ⟨k + 1, by omega, by omega, by go_num, by
          rw [hnext.out, htr.out]
          simpa [ddcells, Dd.cells] using H⟩
        case measure => simp [intOf]; omega
    · have hex : Hid (some60 ds = (ds.take k).map Dd.trim) := Lib.hid (by
        unfold some60
        congr 1
        have := hlen.out
        by_cases h60 : k = 60
        · rw [h60]
        · have : k = ds.length := by omega
          rw [List.take_of_length_le (by omega), List.take_of_length_le (by omega)])
      go_wp2
      all_goals go_ret
      all_goals
        refine ⟨_, rfl, ?_⟩
        rw [hex.out]
        have : ((ds.take k).map Dd.trim).length = k := by have := hlen.out; simp; omega
        rw [this]
        exact H
end Go.Proofs.Ytbooacglmeoceaa
