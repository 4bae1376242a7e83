/-
  Texts of this claim, one behind the other: flate; A map of the call's own whose elements are ints (0 where there is none); lz; lz; A look-up in a map of ints, in a region that draws its order; lz; lz; lz; Bits; Bits; flate; flate; Bits; Bits; flate; flate; inflate; inflate; inflate.
-/
import Derived.Test.YtnebacnmbigaaaaIc7
import Derived.Maps.Own
import Derived.Maps.OwnOps
import Derived.Maps.Views
import Derived.ProofKit
import Derived.DeepKeys4
import Derived.Test.YtnebacnmbigaaaaRows
import Derived.Deep.OwnRows
import Derived.Deep.DeepCutAuto
import Derived.Deep.CutBlock
import Derived.Deep.LoopGhost
import Derived.WalkLawsBesides
import Derived.WalkSpells
import Derived.BigQuiet
import Derived.Deep.QuietTactic
import Derived.Carry
set_option linter.unusedVariables false
/- flate: the walk of rich: its parts. -/
namespace Go.Proofs.Ytnebacnmbigaaaa
open Go.RowKit

theorem Own.trimmed {w0 w : World} {ps : List Piece} {g n c : Nat} {F : List Int} (least : Nat) (h : Own w0 w (slc 3 1 (.slice (some ⟨g, 0, none⟩) n c) n (nums F) :: ps)) (hF : F.length = n) :
    Own w0 w (slc 3 1 (.slice (some ⟨g, 0, none⟩) (trimF F least).length c) (trimF F least).length (nums (trimF F least)) :: ps) := by
  have hk := trimK_le' F least n
  have h1 := h.slc_take hk
  have e : (nums F).take (trimK F least n * 1) = nums (trimF F least) := by
    unfold trimF nums
    rw [Nat.mul_one, List.map_take, hF]
  rw [e] at h1
  rw [trimF_len, hF]
  exact h1
theorem trim_own {w0 w : World} {ps : List Piece} {g n c : Nat} {F : List Int} (least : Nat) (h : Own w0 w (slc 3 1 (.slice (some ⟨g, 0, none⟩) n c) n (nums F) :: ps)) (hF : F.length = n) (hn : n ≤ 1000000) (hl : least ≤ 1000000) :
    Calls Try.prog 72 #[.slice (some ⟨g, 0, none⟩) n c, .int .i64 least] w (Ret fun r w' => r = .slice (some ⟨g, 0, none⟩) (trimF F least).length c ∧ Own w0 w' (slc 3 1 (.slice (some ⟨g, 0, none⟩) (trimF F least).length c) (trimF F least).length (nums (trimF F least)) :: ps)) := by
  refine (trim_any least h.rd hn hl).mono ?_
  rintro e w' ⟨v, rfl, rfl, h1⟩
  exact ⟨_, rfl, by rw [trimF_len, hF], (h.join h1).trimmed least hF⟩
theorem order_any (w : World) : Calls Try.prog 74 #[] w (Ret fun r w' => r = .agg (nums (ordF.map Int.ofNat)).toArray ∧ Own w w' []) := by
  have H := (Own.start w).alloc (.cells #[.int .i64 0, .int .i64 0, .int .i64 0, .int .i64 0, .int .i64 0, .int .i64 0, .int .i64 0, .int .i64 0, .int .i64 0, .int .i64 0, .int .i64 0, .int .i64 0, .int .i64 0, .int .i64 0, .int .i64 0, .int .i64 0, .int .i64 0, .int .i64 0, .int .i64 0] 105)
  go_enter Try.func74, Try.ntmps74
  go_upto_region 1 with (fail)
  generalize w.alloc _ = w1 at *
  generalize w.heap.size = g at *
  go_wp2_with (refine wpList_store_agg (vs := nums (ordF.map Int.ofNat)) (cur' := (nums (ordF.map Int.ofNat)).toArray) rfl _ _ rfl rfl H rfl (by kernel_rfl) (by simp [nums, ordF]) (by simp [nums, ordF, Value.oneCell']) rfl ?_; clear H; intro w5 H)
  refine bodyPost_ret (results_cell1 rfl _ _ g _ rfl (run_loadVar_row w5 g _ _ _ _ _ H.block.1 Try.underlying105 rfl (by kernel_rfl))) rfl ?_
  exact ⟨_, rfl, rfl, H.bare⟩

theorem made_freq (rs : List Run) (k : Nat) (r : Run) (h : rs[k]? = some r) : runFq (rs.take (k + 1)) = bump1 (runFq (rs.take k)) r.sym := by
  unfold runFq
  rw [List.take_add_one, h, List.map_append]
  exact bumpF_snoc _ _ _
theorem runB_succ {ls : List Int} {rs : List Run} {k : Nat} {r : Run} (h : rs[k]? = some r) : runsB ls (rs.take (k + 1)) = runsB ls (rs.take k) ++ runB ls r := by
  unfold runsB
  rw [List.take_add_one, h, List.flatMap_append]
  simp
theorem lensB_succ {l : List Int} {k : Nat} (h : k < l.length) : lensB (l.take (k + 1)) = lensB (l.take k) ++ bitsOf (l.getD k 0) 3 := by
  unfold lensB
  rw [List.take_add_one, getD_get h, List.flatMap_append]
  simp
theorem run_cells {w : World} {b o c i n : Nat} {l : List Run} {r : Run} (h : Rd w 3 (.slice (some ⟨b, o, none⟩) n c) n (rows rcell l)) (ht : l[i]? = some r) :
    w.cell? ⟨b, o + i * 3, none⟩ = some (.int .i64 r.sym) ∧ w.cell? ⟨b, o + i * 3 + 1, none⟩ = some (.int .i64 r.n) ∧ w.cell? ⟨b, o + i * 3 + 2, none⟩ = some (.int .i64 r.v) := by
  have h0 := h.cell ((rows_get rcell rcell_length ht 0 (by omega)).trans rfl)
  have h1 := h.cell ((rows_get rcell rcell_length ht 1 (by omega)).trans rfl)
  have h2 := h.cell ((rows_get rcell rcell_length ht 2 (by omega)).trans rfl)
  exact ⟨h0, h1, h2⟩
end Go.Proofs.Ytnebacnmbigaaaa
/- A map of the call's own whose elements are ints (0 where there is none): a look-up, a store, a delete. No program in sight. -/
namespace Go.Proofs.Ytnebacnmbigaaaa
open Go.RowKit Go.Maps
open Go.WideElems (Fit rg)

/-- The entries, as a datum. -/
def mdat (P : Program) (K E : TypeId) (es : Array MapEntry) : DataW Unit := .map ((es.toList.map (rg P K (plainElem (H := Unit) P E))).foldr DataW.insert [])
/-- A map: by its keys (those that a's are), ints; at most n entries. -/
def mpi (P : Program) (K E : TypeId) {α : Type} (enc : α → Value) (b n : Nat) (g : α → Int) : Piece := fun h =>
  ∃ es clock, h = [(b, .map es clock)] ∧ Fit P K (plainElem (H := Unit) P E) es clock ∧ es.size ≤ n ∧ ∀ a kl, keyOf P K (enc a) = some kl → (mdat P K E es).atKey kl (.lit (.int .i64 0)) = .lit (.int .i64 (g a))

section
variable {P : Program} {K E t : TypeId} {α : Type} {enc : α → Value} {b n : Nat} {g : α → Int} {w0 w : World} {ps : List Piece}
theorem Own.mpi_open (h : Own w0 w (mpi P K E enc b n g :: ps)) : ∃ es clock, Fit P K (plainElem (H := Unit) P E) es clock ∧ es.size ≤ n ∧ (∀ a kl, keyOf P K (enc a) = some kl → (mdat P K E es).atKey kl (.lit (.int .i64 0)) = .lit (.int .i64 (g a))) ∧ Own w0 w (blk b (.map es clock) :: ps) := by
  obtain ⟨hb, x, ⟨es, clock, rfl, h1, h2, h3⟩, r⟩ := h
  exact ⟨es, clock, h1, h2, h3, hb, _, rfl, r⟩
theorem Own.mpi_shut {es : Array MapEntry} {clock : Nat} (h1 : Fit P K (plainElem (H := Unit) P E) es clock) (h2 : es.size ≤ n) (h3 : ∀ a kl, keyOf P K (enc a) = some kl → (mdat P K E es).atKey kl (.lit (.int .i64 0)) = .lit (.int .i64 (g a)))
    (h : Own w0 w (blk b (.map es clock) :: ps)) : Own w0 w (mpi P K E enc b n g :: ps) := by
  obtain ⟨hb, x, rfl, r⟩ := h
  exact ⟨hb, _, ⟨es, clock, rfl, h1, h2, h3⟩, r⟩
theorem Own.mpi_new (h : Own w0 w ps) : Own w0 (w.alloc (.map #[] 0)) (mpi P K E enc w.heap.size 0 (fun _ => 0) :: ps) := by
  obtain ⟨es, clock, hb, F, hs, hD⟩ := World.ownsMap_made (H := Unit) w P K (plainElem P E)
  have hb' : (w.alloc (.map #[] 0)).heap[w.heap.size]? = some (.map #[] 0) := heap_alloc_new w _
  rw [hb'] at hb
  cases hb
  refine (h.alloc (.map #[] 0)).mpi_shut F (Nat.le_refl _) fun a kl _ => ?_
  unfold mdat
  rw [← hD]
  rfl
theorem mpi_lookup (h : Own w0 w (mpi P K E enc b n g :: ps)) (hK : Keyed P K) (ht : P.underlying t = some (.map K E)) (he : P.underlying E = some (.int .i64)) (hz : (zeroValue E).run P w = .ok (.int .i64 0) w)
    {a : α} {kl : Lit} (hkey : keyOf P K (enc a) = some kl) : (Instr.lookup t (.map (some b)) (enc a) false).run P w = .ok (.int .i64 (g a)) w := by
  obtain ⟨es, clock, F, hs, hg, h⟩ := h.mpi_open
  have hown : w.ownsMap P K (plainElem (H := Unit) P E) b n (mdat P K E es) := ⟨es, clock, h.block.1, F, hs, rfl⟩
  obtain ⟨c, hrun, hat, _⟩ := hown.lookup_int hK ht he hz hkey
  rw [hg a kl hkey] at hat
  cases hat
  exact hrun
variable [DecidableEq α]
theorem mpi_update (h : Own w0 w (mpi P K E enc b n g :: ps)) (hK : Keyed P K) (ht : P.underlying t = some (.map K E)) (he : P.underlying E = some (.int .i64)) (hn : n < 9223372036854775807) (henc : ∀ x y, enc x = enc y → x = y)
    {a : α} {kl : Lit} (hkey : keyOf P K (enc a) = some kl) {c : Int} (hc : -9223372036854775808 ≤ c ∧ c ≤ 9223372036854775807) :
    ∃ w', (Instr.mapUpdate t (.map (some b)) (enc a) (.int .i64 c)).run P w = .ok () w' ∧ Own w0 w' (mpi P K E enc b (n + 1) (fun x => if x = a then c else g x) :: ps) := by
  obtain ⟨es, clock, F, hs, hg, h⟩ := h.mpi_open
  have hown : w.ownsMap P K (plainElem (H := Unit) P E) b n (mdat P K E es) := ⟨es, clock, h.block.1, F, hs, rfl⟩
  have hwf : (Lit.int .i64 c).wf = true := WalkArith.wf_i64 (by omega)
  obtain ⟨w', hrun, ⟨es', clock', hb', F', hs', hD⟩, hgr⟩ := hown.update hK ht (by unfold maxLen; omega) hkey (plainElem_int he hwf)
  refine ⟨w', hrun, Own.mpi_shut F' hs' (fun x kx hx => ?_) (h.turn hgr.os hgr.tape hgr.output hgr.size hb' fun k hk hne => hgr.block k hk (by simpa using hne))⟩
  show (DataW.map _).atKey kx _ = _
  rw [← hD]
  by_cases hxa : x = a
  · subst hxa
    rw [hkey] at hx
    cases hx
    rw [if_pos rfl]
    exact atKey_put_same ⟨_, rfl⟩ (hK.key hkey) _ _
  · rw [if_neg hxa, atKey_put_other]
    · exact hg x kx hx
    · rintro rfl
      exact hxa (henc _ _ (hK.inj hx hkey))
theorem mpi_delete {ty : TypeId} (h : Own w0 w (mpi P K E enc b n g :: ps)) (hK : Keyed P K) (ht : P.underlying t = some (.map K E)) (henc : ∀ x y, enc x = enc y → x = y)
    {a : α} {kl : Lit} (hkey : keyOf P K (enc a) = some kl) :
    ∃ w', (Builtin.delete_ #[t, K] ty #[.map (some b), enc a]).run P w = .ok (.tuple #[]) w' ∧ Own w0 w' (mpi P K E enc b n (fun x => if x = a then 0 else g x) :: ps) := by
  obtain ⟨es, clock, F, hs, hg, h⟩ := h.mpi_open
  obtain ⟨es', hrun, F', hs', hD, _⟩ := fit_drop (ty := ty) hK ht h.block.1 F hkey
  refine ⟨_, hrun, Own.mpi_shut F' (Nat.le_trans hs' hs) (fun x kx hx => ?_) (h.turn rfl rfl rfl (by simp [Go.ChangeMaps.setBlock]) (Go.ChangeMaps.heap_setBlock_same h.block.1 _) fun k hk hne => Go.ChangeMaps.heap_setBlock_other h.block.1 _ hne)⟩
  have hput : mdat P K E es' = (mdat P K E es).del kl := by
    unfold mdat
    rw [hD]
    rfl
  rw [hput]
  by_cases hxa : x = a
  · subst hxa
    rw [hkey] at hx
    cases hx
    rw [if_pos rfl]
    exact atKey_del_same _
  · rw [if_neg hxa, atKey_del_other]
    · exact hg x kx hx
    · rintro rfl
      exact hxa (henc _ _ (hK.inj hx hkey))
end

section
variable {P : Program} {K E t : TypeId} {α : Type} {enc : α → Value} {b n : Nat} {g : α → Int} {w0 w : World} {ps : List Piece} [DecidableEq α]
variable {ops : Array Oper} {rest : List Oper} {o : Oper} {act : Act} {Q : Exit → Act → World → Prop}
/-- 'm[k] = v' in a walk. -/
theorem wpList_update_mpi (hgd : o.guard = none) (m x v : Operand) (hop : o.op = .mapUpdate t m x v) (H : Own w0 w (mpi P K E enc b n g :: ps)) (hK : Keyed P K) (ht : P.underlying t = some (.map K E)) (he : P.underlying E = some (.int .i64)) (hn : n < 9223372036854775807) (henc : ∀ x y, enc x = enc y → x = y)
    (hm : act.eval m = .map (some b)) {a : α} (hx : act.eval x = enc a) {kl : Lit} (hkey : keyOf P K (enc a) = some kl) {c : Int} (hv : act.eval v = .int .i64 c) (hc : -9223372036854775808 ≤ c ∧ c ≤ 9223372036854775807)
    (h : ∀ w', Own w0 w' (mpi P K E enc b (n + 1) (fun x => if x = a then c else g x) :: ps) → wpList P ops Q rest (act.put o.dst undef) w') : wpList P ops Q (o :: rest) act w := by
  refine wpList_plain hgd fun K' hK' => ?_
  obtain ⟨w', hrun, h2⟩ := mpi_update H hK ht he hn henc hkey hc
  unfold Oper.wp
  simp [execOp, hop, hm, hx, hv, hrun, Result.andThen]
  exact hK' _ _ (h w' h2)
end
end Go.Proofs.Ytnebacnmbigaaaa
/- lz: the map's keys, three bytes. -/
namespace Go.Proofs.Ytnebacnmbigaaaa
open Go.RowKit Go.Maps Go.ChangeShapes Go.WideShapes

/-- Three bytes, as a key. -/
def k3 (k : UInt8 × UInt8 × UInt8) : Value := .agg #[.int .u8 k.1.toNat, .int .u8 k.2.1.toNat, .int .u8 k.2.2.toNat]
set_option maxRecDepth 100000 in
theorem k3_inj (a b : UInt8 × UInt8 × UInt8) (h : k3 a = k3 b) : a = b := by
  obtain ⟨a0, a1, a2⟩ := a
  obtain ⟨b0, b1, b2⟩ := b
  simp only [k3, Value.agg.injEq, Array.mk.injEq, List.cons.injEq, Value.int.injEq, true_and, and_true] at h
  obtain ⟨h0, h1, h2⟩ := h
  have e0 : a0 = b0 := UInt8.toNat_inj.1 (by omega)
  have e1 : a1 = b1 := UInt8.toNat_inj.1 (by omega)
  have e2 : a2 = b2 := UInt8.toNat_inj.1 (by omega)
  rw [e0, e1, e2]
set_option maxRecDepth 100000 in
theorem k3_laidOut : laidOutB Try.prog = true := by kernel_rfl
set_option maxRecDepth 100000 in
theorem k3_row : (113 : TypeId) < Try.prog.types.size := of_decide_eq_true (by kernel_rfl)
set_option maxRecDepth 100000 in
theorem k3_deep : Try.prog.keyTypeAt (Try.prog.types.size + 1) 113 = true := by kernel_rfl
set_option maxRecDepth 100000 in
theorem k3_wide : (match Try.prog.underlying 113 with | some (.array _ _) | some (.struct _) => true | _ => false) = true := by rw [Try.underlying113]
set_option maxRecDepth 100000 in
theorem k3_law : Keyed Try.prog 113 := Keyed.of_law (deep_law_laid k3_laidOut (m := 2) (by omega) k3_row (by kernel_rfl) k3_wide)
set_option maxRecDepth 100000 in
theorem k3_key (w : World) (k : UInt8 × UInt8 × UInt8) : ∃ kl, keyOf Try.prog 113 (k3 k) = some kl := by
  have hc : Try.prog.cellsOf 113 = 3 := by kernel_rfl
  have hc1 : Try.prog.cellsOf 5 = 1 := by kernel_rfl
  have hf : (k3 k).formed Try.prog 113 = true := by simp [k3, Value.formed, Try.underlying113, hc]
  have h0 := k.1.toNat_lt
  have h1 := k.2.1.toNat_lt
  have h2 := k.2.2.toNat_lt
  have w0 : (Lit.int .u8 (k.1.toNat : Int)).wf = true := by simp [Lit.wf, IntKind.min, IntKind.max, IntKind.bits, IntKind.signed]; omega
  have w1 : (Lit.int .u8 (k.2.1.toNat : Int)).wf = true := by simp [Lit.wf, IntKind.min, IntKind.max, IntKind.bits, IntKind.signed]; omega
  have w2 : (Lit.int .u8 (k.2.2.toNat : Int)).wf = true := by simp [Lit.wf, IntKind.min, IntKind.max, IntKind.bits, IntKind.signed]; omega
  have ht : DataW.Trod (H := Unit) (fun _ => ()) Try.prog w 0 (fun _ => true) true 113 (k3 k) (.agg [.lit (.int .u8 k.1.toNat), .lit (.int .u8 k.2.1.toNat), .lit (.int .u8 k.2.2.toNat)]) [] := by
    refine ⟨2, ?_⟩
    simp [DataW.trod, k3, Value.cells, Try.underlying113, Try.underlying5, hc, hc1, w0, w1, w2, List.range, List.range.loop]
  exact ⟨_, (keyOf_asKey k3_deep k3_wide hf ht).1⟩
end Go.Proofs.Ytnebacnmbigaaaa
/- lz: the walks of the finder's parts that only look. -/
namespace Go.Proofs.Ytnebacnmbigaaaa
open Go.RowKit

set_option maxRecDepth 100000 in
theorem byt_is {s : ByteArray} {i : Nat} (h : i < s.size) : s[i] = byt s i := by
  unfold byt
  simp [Array.getD, h]
  rfl

set_option maxRecDepth 100000 in
set_option maxHeartbeats 1600000 in
theorem fkey_any {w0 w : World} {ps : List Piece} {g : Nat} {s : ByteArray} {m v : Value} {i : Nat} (H : Own w0 w (blk g (.cells #[.string s, m, v] 85) :: ps)) (hi : i + 3 ≤ s.size) (hs : s.size ≤ 1000000) :
    Calls Try.prog 67 #[.pointer (some ⟨g, 0, none⟩), .int .i64 i] w (Ret fun r w' => r = k3 (key3 s i) ∧ Own w0 w' (blk g (.cells #[.string s, m, v] 85) :: ps)) := by
  obtain ⟨j, hj⟩ : ∃ j, Hid (i + 1 = j) := ⟨_, rfl⟩
  obtain ⟨k, hk⟩ : ∃ k, Hid (i + 2 = k) := ⟨_, rfl⟩
  have h0 : i < s.size := by omega
  have h1 : j < s.size := by have := hj.out; omega
  have h2 : k < s.size := by have := hk.out; omega
  have hI1 : (i : Int) + 1 = (j : Int) := by have := hj.out; omega
  have hI2 : (i : Int) + 2 = (k : Int) := by have := hk.out; omega
  have hw1 : IntKind.i64.wrap (j : Int) = (j : Int) := IntWalk.i64_in _ ⟨by omega, by omega⟩
  have hw2 : IntKind.i64.wrap (k : Int) = (k : Int) := IntWalk.i64_in _ ⟨by omega, by omega⟩
  have e0 := byt_is h0
  have e1 := byt_is h1
  have e2 := byt_is h2
  have hk3 : Hid (k3 (key3 s i) = .agg #[.int .u8 (byt s i).toNat, .int .u8 (byt s j).toNat, .int .u8 (byt s k).toNat]) := Lib.hid (by rw [← hj.out, ← hk.out]; rfl)
  clear hi
  go_enter Try.func67, Try.ntmps67
  go_upto_region 1 with (fail)
  have H1 := H.alloc (.cells #[.int .u8 0, .int .u8 0, .int .u8 0] 113)
  clear H
  generalize hc : w.heap.size = c at *
  generalize w.alloc (.cells #[.int .u8 0, .int .u8 0, .int .u8 0] 113) = wa at *
  refine wp_region_calm (fun w1 => Own w0 w1 (blk c (.cells #[.int .u8 0, .int .u8 0, .int .u8 0] 113) :: blk g (.cells #[.string s, m, v] 85) :: ps)) 21 (by kernel_rfl) (by kernel_rfl) H1.drew ?_
  simp only [List.take_succ_cons, List.take_zero, List.drop_succ_cons, List.drop_zero]
  repeat
    first
    | (refine calm_value (v := ?_) (by decide) rfl (fun σ w1 hS => ?_) ?_
       rotate_left
       · have c0 := hS.swap.cells
         first | (go_simp; rfl) | rfl
       simp only [Act.put, List.setIfInBounds_toArray, List.set_cons_zero, List.set_cons_succ])
    | (refine calm_skip (by decide) rfl ?_
       simp only [Act.put, List.setIfInBounds_toArray, List.set_cons_zero, List.set_cons_succ])
  refine calm_nil ?_
  intro wd HD
  clear H1
  go_wp2_with (first
    | (refine wpList_store_agg rfl _ _ rfl rfl HD rfl (by kernel_rfl) (by simp) (by simp; exact ⟨rfl, rfl, rfl⟩) rfl ?_; clear HD; intro w5 H; have c0 := H.cells))
  refine bodyPost_ret (results_cell_row rfl _ _ c _ _ _ _ rfl H.block.1 Try.underlying113 rfl (by kernel_rfl)) rfl ?_
  exact ⟨_, rfl, by rw [hk3.out]; rfl, H.drop⟩

set_option maxRecDepth 100000 in
set_option maxHeartbeats 1600000 in
theorem fsame_any {w0 w : World} {ps : List Piece} {g : Nat} {s : ByteArray} {m v : Value} {x y : Nat} (H : Own w0 w (blk g (.cells #[.string s, m, v] 85) :: ps)) (hxy : x ≤ y) (hy : y ≤ s.size) (hs : s.size ≤ 1000000) :
    Calls Try.prog 68 #[.pointer (some ⟨g, 0, none⟩), .int .i64 x, .int .i64 y] w (Ret fun r w' => r = .int .i64 (comm s x y) ∧ Own w0 w' (blk g (.cells #[.string s, m, v] 85) :: ps)) := by
  go_enter Try.func68, Try.ntmps68
  go_wp2_with fail
  go_loopw [7] (fun s7 wr => ∃ n : Nat, s7 = .int .i64 n ∧ n ≤ 258 ∧ Hid (∀ j, j < n → y + j < s.size ∧ byt s (x + j) = byt s (y + j)) ∧ Own w0 wr (blk g (.cells #[.string s, m, v] 85) :: ps)) (fun s7 _ => 258 - (intOf s7).toNat)
  case atStart => exact ⟨0, by simp, by omega, Lib.hid (fun j hj => by omega), H⟩
  case round =>
    clear H
    obtain ⟨n, rfl, hn, hall, H⟩ := hrel
    by_cases h1 : n < 258
    · have h1I : (n : Int) < 258 := by omega
      obtain ⟨q, hq⟩ : ∃ q, Hid (y + n = q) := ⟨_, rfl⟩
      obtain ⟨p, hp⟩ : ∃ p, Hid (x + n = p) := ⟨_, rfl⟩
      have hqI : (y : Int) + (n : Int) = (q : Int) := by have := hq.out; omega
      have hpI : (x : Int) + (n : Int) = (p : Int) := by have := hp.out; omega
      have hqm : q ≤ 2000000 := by have := hq.out; omega
      have hpq : p ≤ q := by have := hq.out; have := hp.out; omega
      have hw1 : IntKind.i64.wrap (q : Int) = (q : Int) := IntWalk.i64_in _ ⟨by omega, by omega⟩
      have hw2 : IntKind.i64.wrap (p : Int) = (p : Int) := IntWalk.i64_in _ ⟨by omega, by omega⟩
      by_cases h2 : q < s.size
      · have h2I : (q : Int) < (s.size : Int) := by omega
        have h3 : p < s.size := by omega
        have e0 := byt_is h2
        have e1 := byt_is h3
        obtain ⟨t, ht⟩ : ∃ t, Hid (decide (byt s p = byt s q) = t) := ⟨_, rfl⟩
        have htI : (((byt s p).toNat : Int) == ((byt s q).toNat : Int)) = t := by
          rw [← ht.out]
          by_cases hb : byt s p = byt s q
          · simp [hb]
          · have : (byt s p).toNat ≠ (byt s q).toNat := fun h => hb (UInt8.toNat_inj.1 h)
            simp [hb]
            omega
        go_upto_region 2 with (fail)
        refine wp_region_calm (fun w1 => Own w0 w1 (blk g (.cells #[.string s, m, v] 85) :: ps)) 32 (by kernel_rfl) (by kernel_rfl) H.drew ?_
        simp only [List.take_succ_cons, List.take_zero, List.drop_succ_cons, List.drop_zero]
        repeat
          first
          | (refine calm_value (v := ?_) (by decide) rfl (fun σ w1 hS => ?_) ?_
             rotate_left
             · have c0 := hS.cells
               first | (go_simp; rfl) | rfl
             simp only [Act.put, List.setIfInBounds_toArray, List.set_cons_zero, List.set_cons_succ])
          | (refine calm_skip (by decide) rfl ?_
             simp only [Act.put, List.setIfInBounds_toArray, List.set_cons_zero, List.set_cons_succ])
        refine calm_nil ?_
        intro wd HD
        clear H
        cases t with
        | true =>
          have hb : byt s p = byt s q := by simpa using ht.out
          have hall' : Hid (∀ j, j < n + 1 → y + j < s.size ∧ byt s (x + j) = byt s (y + j)) := Lib.hid (by
            intro j hj
            by_cases hjn : j = n
            · subst hjn
              rw [hq.out, hp.out]
              exact ⟨h2, hb⟩
            · exact hall.out j (by omega))
          clear hb ht htI
          go_wp2
          go_roundw
          case rel => exact ⟨n + 1, by go_num, by omega, hall', HD⟩
          case measure => simp [intOf]; omega
        | false =>
          have hfin : Hid (comm s x y = n) := Lib.hid (comm_is (by omega) hall.out (.inr (by rw [hq.out, hp.out]; intro h; have := ht.out; simp at this; exact this h.2)))
          clear ht htI
          go_wp2
          go_ret
          exact ⟨_, rfl, by rw [hfin.out]; rfl, HD⟩
      · have h2I : ¬ (q : Int) < (s.size : Int) := by omega
        have hfin : Hid (comm s x y = n) := Lib.hid (comm_is (by omega) hall.out (.inr (by rw [hq.out]; intro h; exact h2 h.1)))
        go_upto_region 2 with (fail)
        refine wp_region_calm (fun w1 => Own w0 w1 (blk g (.cells #[.string s, m, v] 85) :: ps)) 32 (by kernel_rfl) (by kernel_rfl) H.drew ?_
        simp only [List.take_succ_cons, List.take_zero, List.drop_succ_cons, List.drop_zero]
        repeat
          first
          | (refine calm_value (v := ?_) (by decide) rfl (fun σ w1 hS => ?_) ?_
             rotate_left
             · have c0 := hS.cells
               first | (go_simp; rfl) | rfl
             simp only [Act.put, List.setIfInBounds_toArray, List.set_cons_zero, List.set_cons_succ])
          | (refine calm_skip (by decide) rfl ?_
             simp only [Act.put, List.setIfInBounds_toArray, List.set_cons_zero, List.set_cons_succ])
        refine calm_nil ?_
        intro wd HD
        clear H
        go_wp2
        go_ret
        exact ⟨_, rfl, by rw [hfin.out]; rfl, HD⟩
    · have h1I : ¬ (n : Int) < 258 := by omega
      have hfin : Hid (comm s x y = n) := Lib.hid (comm_is (by omega) hall.out (.inl (by omega)))
      go_upto_region 2 with (fail)
      refine wp_region_calm (fun w1 => Own w0 w1 (blk g (.cells #[.string s, m, v] 85) :: ps)) 32 (by kernel_rfl) (by kernel_rfl) H.drew ?_
      simp only [List.take_succ_cons, List.take_zero, List.drop_succ_cons, List.drop_zero]
      repeat
        first
        | (refine calm_value (v := ?_) (by decide) rfl (fun σ w1 hS => ?_) ?_
           rotate_left
           · have c0 := hS.cells
             first | (go_simp; rfl) | rfl
           simp only [Act.put, List.setIfInBounds_toArray, List.set_cons_zero, List.set_cons_succ])
        | (refine calm_skip (by decide) rfl ?_
           simp only [Act.put, List.setIfInBounds_toArray, List.set_cons_zero, List.set_cons_succ])
      refine calm_nil ?_
      intro wd HD
      clear H
      go_wp2
      go_ret
      exact ⟨_, rfl, by rw [hfin.out]; rfl, HD⟩

end Go.Proofs.Ytnebacnmbigaaaa
/- A look-up in a map of ints, in a region that draws its order. -/
namespace Go.Proofs.Ytnebacnmbigaaaa
open Go.RowKit Go.Maps

section
variable {P : Program} {ops : Array Oper} {S : Sig → World → Prop} {nw : List Nat} {R : Act → Prop} {a : Act} {o : Oper} {rest : List Oper} {i : Nat}
variable {K E t : TypeId} {α : Type} {enc : α → Value} {b n : Nat} {g : α → Int} {w0 : World}
theorem calm_lookup (m x : Operand) (hi : i ∉ nw) (hw : Region.wanted o (yielded ops a.tmps) = true) (ho : o.op = .lookup t m x false) (hm : a.eval m = .map (some b)) {k : α} (hx : a.eval x = enc k)
    (hS : ∀ σ w, S σ w → ∃ ps, Own w0 w (mpi P K E enc b n g :: ps)) (hK : Keyed P K) (ht : P.underlying t = some (.map K E)) (he : P.underlying E = some (.int .i64)) (hz : ∀ w, (zeroValue E).run P w = .ok (.int .i64 0) w)
    {kl : Lit} (hkey : keyOf P K (enc k) = some kl)
    (h : calm P ops S nw R (i + 1) rest (a.put o.dst (.int .i64 (g k)))) : calm P ops S nw R i (o :: rest) a :=
  calm_value hi hw (fun σ w hs => by
    obtain ⟨ps, H⟩ := hS σ w hs
    have hr := mpi_lookup H hK ht he (hz w) hkey
    simp [execOp, ho, hm, hx, hr]) h
theorem Own.mpi_mono {w : World} {ps : List Piece} {m : Nat} (h : Own w0 w (mpi P K E enc b n g :: ps)) (hm : n ≤ m) : Own w0 w (mpi P K E enc b m g :: ps) :=
  h.imp fun _ ⟨es, clock, h1, h2, h3, h4⟩ => ⟨es, clock, h1, h2, by omega, h4⟩
end
end Go.Proofs.Ytnebacnmbigaaaa
/- lz: the walks of put and find. -/
namespace Go.Proofs.Ytnebacnmbigaaaa
open Go.RowKit Go.Maps

/-- What the map has. -/
def gOf (s : ByteArray) (i : Nat) : UInt8 × UInt8 × UInt8 → Int := fun k => (prev s k i : Int)
set_option maxRecDepth 100000 in
theorem gOf_zero (s : ByteArray) : gOf s 0 = fun _ => 0 := rfl
set_option maxRecDepth 100000 in
theorem gOf_put {s : ByteArray} {i : Nat} (h : i + 3 ≤ s.size) : gOf s (i + 1) = fun x => if x = key3 s i then (i : Int) + 1 else gOf s i x := by
  funext x
  unfold gOf
  rw [prev]
  by_cases hx : x = key3 s i
  · subst hx
    rw [if_pos ⟨h, rfl⟩, if_pos rfl]
    omega
  · rw [if_neg (fun hh => hx hh.2.symm), if_neg hx]
set_option maxRecDepth 100000 in
theorem gOf_skip {s : ByteArray} {i : Nat} (h : ¬ i + 3 ≤ s.size) : gOf s (i + 1) = gOf s i := by
  funext x
  unfold gOf
  rw [prev, if_neg (fun hh => h hh.1)]
structure Backs (s : ByteArray) (i : Nat) (xs : List Int) : Prop where
  len : xs.length = s.size
  get : ∀ q, q < i → q + 3 ≤ s.size → xs[q]? = some (prev s (key3 s q) q : Int)
set_option maxRecDepth 100000 in
theorem Backs.put {s : ByteArray} {i : Nat} {xs : List Int} (h : Backs s i xs) (hi : i + 3 ≤ s.size) : Backs s (i + 1) (xs.set i (prev s (key3 s i) i : Int)) := by
  refine ⟨by simpa using h.len, fun q h1 h2 => ?_⟩
  have hl := h.len
  rw [List.getElem?_set]
  by_cases hq : i = q
  · subst hq
    rw [if_pos rfl, if_pos (by omega)]
  · rw [if_neg hq]
    exact h.get q (by omega) h2
set_option maxRecDepth 100000 in
theorem Backs.skip {s : ByteArray} {i : Nat} {xs : List Int} (h : Backs s i xs) (hi : ¬ i + 3 ≤ s.size) : Backs s (i + 1) xs :=
  ⟨h.len, fun q h1 h2 => h.get q (by omega) h2⟩
/-- A finder that noted the places ahead of i. -/
def Fnd (g : Nat) (s : ByteArray) (i : Nat) : Piece := ex fun p : Nat × Value × List Int =>
  star (blk g (.cells #[.string s, .map (some p.1), p.2.1] 85)) (star (mpi Try.prog 113 3 k3 p.1 i (gOf s i)) (star (slc 3 1 p.2.1 s.size (nums p.2.2)) (fact (Backs s i p.2.2))))
section
variable {w0 w : World} {ps : List Piece} {g b i : Nat} {s : ByteArray} {xs : List Int} {v : Value}
set_option maxRecDepth 100000 in
theorem fnd_open (h : Own w0 w (Fnd g s i :: ps)) : ∃ b v xs, Backs s i xs ∧ Own w0 w (blk g (.cells #[.string s, .map (some b), v] 85) :: mpi Try.prog 113 3 k3 b i (gOf s i) :: slc 3 1 v s.size (nums xs) :: ps) := by
  obtain ⟨⟨b, v, xs⟩, h⟩ := h.ex
  have h := h.star.swap.star.swap.star.swap.fact
  exact ⟨b, v, xs, h.1, (h.2.swap.front 2 rfl)⟩
set_option maxRecDepth 100000 in
theorem fnd_shut (hb : Backs s i xs) (h : Own w0 w (blk g (.cells #[.string s, .map (some b), v] 85) :: mpi Try.prog 113 3 k3 b i (gOf s i) :: slc 3 1 v s.size (nums xs) :: ps)) : Own w0 w (Fnd g s i :: ps) :=
  Own.unex (f := fun p : Nat × Value × List Int => Go.Proofs.Ytnebacnmbigaaaa.star (blk g (.cells #[.string s, .map (some p.1), p.2.1] 85)) (Go.Proofs.Ytnebacnmbigaaaa.star (mpi Try.prog 113 3 k3 p.1 i (gOf s i)) (Go.Proofs.Ytnebacnmbigaaaa.star (slc 3 1 p.2.1 s.size (nums p.2.2)) (Go.Proofs.Ytnebacnmbigaaaa.fact (Backs s i p.2.2))))) (b, v, xs)
    ((((h.front 2 rfl).unfact hb).swap.unstar.front 2 rfl).unstar.swap.unstar)
end
set_option maxRecDepth 100000 in
theorem intZero : ∀ w, (zeroValue 3).run Try.prog w = .ok (.int .i64 0) w := fun w => by kernel_rfl

set_option maxRecDepth 100000 in
set_option maxHeartbeats 1600000 in
theorem fput_any {w0 w : World} {ps : List Piece} {g i : Nat} {s : ByteArray} (H : Own w0 w (Fnd g s i :: ps)) (hi : i < s.size) (hs : s.size ≤ 1000000) :
    Calls Try.prog 44 #[.pointer (some ⟨g, 0, none⟩), .int .i64 i] w (Ret fun _ w' => Own w0 w' (Fnd g s (i + 1) :: ps)) := by
  obtain ⟨b, v, xs, hb, H⟩ := fnd_open H
  have c0 := H.cells
  obtain ⟨z, hz⟩ : ∃ z, Hid (s.size = z) := ⟨_, rfl⟩
  by_cases h3 : i + 3 ≤ s.size
  · have h3I : (i : Int) + 3 ≤ (s.size : Int) := by omega
    have HB := Lib.hid (hb.put h3)
    clear hb
    obtain ⟨kl, hkl⟩ := k3_key w (key3 s i)
    have HK := Lib.hid hkl
    clear hkl
    obtain ⟨rb, c, rfl, hc1, hc2, _⟩ := (H.front 2 rfl).at (by rw [nums_length]; have := HB.out.len; simp at this; omega)
    go_enter Try.func44, Try.ntmps44
    go_wp2_with fail
    refine (fkey_any H h3 hs).mono ?_
    rintro e w1 ⟨_, rfl, rfl, H1⟩
    clear H c0
    obtain ⟨x0, x1, x2, hk⟩ : ∃ x0 x1 x2 : Int, Hid (k3 (key3 s i) = .agg #[.int .u8 x0, .int .u8 x1, .int .u8 x2]) := ⟨_, _, _, Lib.hid rfl⟩
    rw [hk.out]
    have hupd := Lib.hid (gOf_put h3)
    have hlk : Hid (gOf s i (key3 s i) = (prev s (key3 s i) i : Int)) := Lib.hid rfl
    obtain ⟨pv, hpv⟩ : ∃ pv, Hid (prev s (key3 s i) i = pv) := ⟨_, rfl⟩
    rw [hpv.out] at HB hlk
    obtain ⟨G, hG⟩ : ∃ G, Hid (gOf s i = G) := ⟨_, rfl⟩
    have hG' := hG.out
    rw [hG'] at H1 hupd hlk
    clear hG'
    have c0 := H1.cells
    go_upto_region 2 with (refine wpList_store_agg rfl _ _ rfl rfl (H1.alloc _) rfl (by kernel_rfl) (by simp) (by simp; exact ⟨rfl, rfl, rfl⟩) rfl ?_; clear H1 c0; intro w5 H)
    generalize w1.heap.size = kb at *
    refine wp_region_calm (fun w1 => Own w0 w1 (blk kb (.cells #[.int .u8 x0, .int .u8 x1, .int .u8 x2] 113) :: blk g (.cells #[.string s, .map (some b), .slice (some ⟨rb, 0, none⟩) s.size c] 85) :: mpi Try.prog 113 3 k3 b i G :: slc 3 1 (.slice (some ⟨rb, 0, none⟩) s.size c) s.size (nums xs) :: ps)) 12 (by kernel_rfl) (by kernel_rfl) H.drew ?_
    simp only [List.take_succ_cons, List.take_zero, List.drop_succ_cons, List.drop_zero]
    repeat
      first
      | (refine calm_value (v := ?_) (by decide) rfl (fun σ w1 hS => ?_) ?_
         rotate_left
         · have c0 := hS.swap.cells; have c1 := hS.cells
           first | (go_simp; rfl) | rfl
         simp only [Act.put, List.setIfInBounds_toArray, List.set_cons_zero, List.set_cons_succ])
      | (refine calm_skip (by decide) rfl ?_
         simp only [Act.put, List.setIfInBounds_toArray, List.set_cons_zero, List.set_cons_succ])
    refine calm_lookup (b := b) (n := i) (g := G) (w0 := w0) (k := key3 s i) _ _ (by decide) rfl rfl rfl ?_ (fun σ w hS => ⟨_, (hS.front 2 rfl)⟩) k3_law Try.underlying83 Try.underlying3 intZero HK.out ?_
    · exact hk.out.symm
    repeat
      first
      | (refine calm_value (v := ?_) (by decide) rfl (fun σ w1 hS => ?_) ?_
         rotate_left
         · have c0 := hS.swap.cells; have c1 := hS.cells
           first | (go_simp; rfl) | rfl
         simp only [Act.put, List.setIfInBounds_toArray, List.set_cons_zero, List.set_cons_succ])
      | (refine calm_skip (by decide) rfl ?_
         simp only [Act.put, List.setIfInBounds_toArray, List.set_cons_zero, List.set_cons_succ])
    refine calm_nil ?_
    intro wd HD
    clear H
    rw [hlk.out]
    go_upto_region 3 with (refine wpList_store_slc rfl _ _ rfl (j := i) rfl (HD.front 3 rfl) (.int .i64 pv) rfl (by kernel_rfl) (by omega) rfl ?_; clear HD; intro w6 H)
    have hw1 : IntKind.i64.wrap ((i : Int) + 1) = (i : Int) + 1 := IntWalk.i64_in _ ⟨by omega, by omega⟩
    have hset : (nums xs).set i (.int .i64 (pv : Int)) = nums (xs.set i (pv : Int)) := by simp [nums, List.map_set]
    rw [hset] at H
    have H : Own w0 w6 (blk kb (.cells #[.int .u8 x0, .int .u8 x1, .int .u8 x2] 113) :: blk g (.cells #[.string s, .map (some b), .slice (some ⟨rb, 0, none⟩) s.size c] 85) :: mpi Try.prog 113 3 k3 b i G :: slc 3 1 (.slice (some ⟨rb, 0, none⟩) s.size c) s.size (nums (xs.set i (pv : Int))) :: ps) := (((((H.front 3 rfl).front 3 rfl).front 3 rfl)))
    refine wp_region_calm (fun w1 => Own w0 w1 (blk kb (.cells #[.int .u8 x0, .int .u8 x1, .int .u8 x2] 113) :: blk g (.cells #[.string s, .map (some b), .slice (some ⟨rb, 0, none⟩) s.size c] 85) :: mpi Try.prog 113 3 k3 b i G :: slc 3 1 (.slice (some ⟨rb, 0, none⟩) s.size c) s.size (nums (xs.set i (pv : Int))) :: ps)) 7 (by kernel_rfl) (by kernel_rfl) H.drew ?_
    simp only [List.take_succ_cons, List.take_zero, List.drop_succ_cons, List.drop_zero]
    repeat
      first
      | (refine calm_value (v := ?_) (by decide) rfl (fun σ w1 hS => ?_) ?_
         rotate_left
         · have c0 := hS.swap.cells; have c1 := hS.cells
           first | (go_simp; rfl) | rfl
         simp only [Act.put, List.setIfInBounds_toArray, List.set_cons_zero, List.set_cons_succ])
      | (refine calm_skip (by decide) rfl ?_
         simp only [Act.put, List.setIfInBounds_toArray, List.set_cons_zero, List.set_cons_succ])
    refine calm_nil ?_
    intro wd2 HD
    clear H
    refine wpList_update_mpi (K := 113) (E := 3) (enc := k3) rfl _ _ _ rfl (HD.front 2 rfl) k3_law Try.underlying83 Try.underlying3 (by omega) k3_inj rfl (a := key3 s i) hk.out.symm HK.out (c := (i : Int) + 1) rfl (by omega) ?_
    clear HD
    intro w7 H
    rw [← hupd.out] at H
    go_wp2
    go_end0
    exact ⟨_, rfl, fnd_shut (b := b) (v := .slice (some ⟨rb, 0, none⟩) s.size c) HB.out ((((H.front 2 rfl).front 2 rfl).drop))⟩
  · have h3I : ¬ (i : Int) + 3 ≤ (s.size : Int) := by omega
    have HB := Lib.hid (hb.skip h3)
    clear hb
    go_enter Try.func44, Try.ntmps44
    go_wp2
    go_end0
    refine ⟨_, rfl, fnd_shut (b := b) (v := v) HB.out ?_⟩
    rw [gOf_skip h3]
    exact (H.swap.mpi_mono (Nat.le_succ i)).swap
end Go.Proofs.Ytnebacnmbigaaaa
/- lz: the walk of find. -/
namespace Go.Proofs.Ytnebacnmbigaaaa
open Go.RowKit Go.Maps

set_option maxRecDepth 100000 in
theorem prev_step {s : ByteArray} {i p : Nat} (hk : key3 s (p - 1) = key3 s i) : prev s (key3 s (p - 1)) (p - 1) = prev s (key3 s i) (p - 1) := by rw [hk]

set_option maxRecDepth 100000 in
set_option maxHeartbeats 3200000 in
theorem lzfind_any {w0 w : World} {ps : List Piece} {g i : Nat} {s : ByteArray} (H : Own w0 w (Fnd g s i :: ps)) (hi : i < s.size) (hs : s.size ≤ 1000000) :
    Calls Try.prog 43 #[.pointer (some ⟨g, 0, none⟩), .int .i64 i] w (Ret fun r w' => r = .tuple #[.int .i64 (found s i).1, .int .i64 (found s i).2] ∧ Own w0 w' (Fnd g s i :: ps)) := by
  have H0 := H
  obtain ⟨b, v, xs, hb, H⟩ := fnd_open H
  have hw3 : IntKind.i64.wrap ((i : Int) + 3) = (i : Int) + 3 := IntWalk.i64_in _ ⟨by omega, by omega⟩
  by_cases h3 : i + 3 ≤ s.size
  · have h3I : ¬ (s.size : Int) < (i : Int) + 3 := by omega
    have HB := Lib.hid hb
    clear hb H0
    obtain ⟨kl, hkl⟩ := k3_key w (key3 s i)
    have HK := Lib.hid hkl
    clear hkl
    obtain ⟨rb, c, rfl, hc1, hc2, _⟩ := (H.front 2 rfl).at (by rw [nums_length]; have := HB.out.len; omega)
    obtain ⟨F, hF⟩ : ∃ F, Hid (found s i = F) := ⟨_, rfl⟩
    rw [hF.out]
    obtain ⟨k0, hk0⟩ : ∃ k0, Hid (k3 (key3 s i) = k0) := ⟨_, rfl⟩
    have hlk : Hid (gOf s i (key3 s i) = (prev s (key3 s i) i : Int)) := Lib.hid rfl
    obtain ⟨pv, hpv⟩ : ∃ pv, Hid (prev s (key3 s i) i = pv) := ⟨_, rfl⟩
    rw [hpv.out] at hlk
    obtain ⟨G, hG⟩ : ∃ G, Hid (gOf s i = G) := ⟨_, rfl⟩
    have hG' := hG.out
    rw [hG'] at H hlk
    clear hG'
    obtain ⟨X, hX⟩ : ∃ X, Hid (nums xs = X) := ⟨_, rfl⟩
    rw [hX.out] at H
    have c0 := H.cells
    go_enter Try.func43, Try.ntmps43
    go_upto_region 4 with (fail)
    clear c0
    refine wp_region_calm (fun w1 => Own w0 w1 (blk g (.cells #[.string s, .map (some b), .slice (some ⟨rb, 0, none⟩) s.size c] 85) :: mpi Try.prog 113 3 k3 b i G :: slc 3 1 (.slice (some ⟨rb, 0, none⟩) s.size c) s.size X :: ps)) 9 (by kernel_rfl) (by kernel_rfl) H.drew ?_
    simp only [List.take_succ_cons, List.take_zero, List.drop_succ_cons, List.drop_zero]
    repeat
      first
      | (refine calm_value (v := ?_) (by decide) rfl (fun σ w1 hS => ?_) ?_
         rotate_left
         · have c0 := hS.cells
           first | (go_simp; rfl) | rfl
         simp only [Act.put, List.setIfInBounds_toArray, List.set_cons_zero, List.set_cons_succ])
      | (refine calm_skip (by decide) rfl ?_
         simp only [Act.put, List.setIfInBounds_toArray, List.set_cons_zero, List.set_cons_succ])
    refine calm_call (v := k0) (by decide) rfl (fun w1 => (by go_simp; first | exact ⟨rfl, rfl⟩ | rfl)) (fun σ w1 hS => ?_) ?_
    · refine (fkey_any hS h3 hs).mono ?_
      rintro e w2 ⟨_, rfl, rfl, h2⟩
      exact ⟨by rw [hk0.out], h2⟩
    simp only [Act.put, List.setIfInBounds_toArray, List.set_cons_zero, List.set_cons_succ]
    refine calm_lookup (b := b) (n := i) (g := G) (w0 := w0) (k := key3 s i) _ _ (by decide) rfl rfl rfl ?_ (fun σ w hS => ⟨_, (hS.front 1 rfl)⟩) k3_law Try.underlying83 Try.underlying3 intZero HK.out ?_
    · exact hk0.out.symm
    rw [hlk.out]
    repeat
      first
      | (refine calm_value (v := ?_) (by decide) rfl (fun σ w1 hS => ?_) ?_
         rotate_left
         · have c0 := hS.cells
           first | (go_simp; rfl) | rfl
         simp only [Act.put, List.setIfInBounds_toArray, List.set_cons_zero, List.set_cons_succ])
      | (refine calm_skip (by decide) rfl ?_
         simp only [Act.put, List.setIfInBounds_toArray, List.set_cons_zero, List.set_cons_succ])
    refine calm_nil ?_
    intro wd HD
    clear H
    have hseen : Hid (seen s i pv = (0, 0)) := Lib.hid (by rw [← hpv.out, seen_skip (Nat.le_refl i), seen_start])
    have hpvi : pv ≤ i := by rw [← hpv.out]; exact prev_le ..
    have hpvk : Hid (0 < pv → key3 s (pv - 1) = key3 s i) := Lib.hid (fun h => by rw [← hpv.out] at h ⊢; exact (prev_key i h).1)
    obtain ⟨Z, hZ⟩ : ∃ Z, Hid (s.size = Z) := ⟨_, rfl⟩
    clear hpv hlk
    go_wp2_with fail
    go_loopw [6, 7, 8] (fun s6 s7 s8 wr => ∃ l d p : Nat, s6 = .int .i64 l ∧ s7 = .int .i64 d ∧ s8 = .int .i64 p ∧ p ≤ i ∧ Hid (seen s i p = (l, d)) ∧ Hid (0 < p → key3 s (p - 1) = key3 s i) ∧ Own w0 wr (blk g (.cells #[.string s, .map (some b), .slice (some ⟨rb, 0, none⟩) s.size c] 85) :: mpi Try.prog 113 3 k3 b i G :: slc 3 1 (.slice (some ⟨rb, 0, none⟩) s.size c) s.size X :: ps)) (fun _ _ s8 _ => (intOf s8).toNat)
    case atStart => exact ⟨0, 0, pv, by simp, by simp, by simp, hpvi, hseen, hpvk, HD⟩
    case round =>
      clear HD hpvi hpvk hseen
      obtain ⟨l, d, p, rfl, rfl, rfl, hpi, hsn, hpk, H⟩ := hrel
      by_cases hp0 : p = 0
      · subst hp0
        have hend : Hid (F = (l, d)) := Lib.hid (by rw [← hsn.out, ← hF.out]; exact (seen_end hpi (.inl rfl)).symm)
        clear hpk hsn
        go_wp2
        go_ret2
        refine ⟨_, rfl, by rw [hend.out]; rfl, fnd_shut (b := b) (v := .slice (some ⟨rb, 0, none⟩) s.size c) HB.out ?_⟩
        rw [hG.out, hX.out]
        exact H
      · obtain ⟨q, rfl⟩ : ∃ q, p = q + 1 := ⟨p - 1, by omega⟩
        clear hp0
        have hpc : ((q + 1 : Nat) : Int) = (q : Int) + 1 := by omega
        rw [hpc]
        have hk := Lib.hid (hpk.out (Nat.succ_pos q))
        have e1 : q + 1 - 1 = q := rfl
        have hk' := hk.out
        rw [e1] at hk'
        clear hk hpk
        by_cases hwin : i - q ≤ 4096
        · have hwI : (i : Int) - (q : Int) ≤ 4096 := by omega
          have hhit := seen_hit (s := s) (p := q + 1) (Nat.succ_pos q) hpi (by rw [e1]; exact hwin) (by rw [e1]; exact hk') h3
          rw [e1, hsn.out] at hhit
          have hcm := comm_le s q i
          obtain ⟨n, hn⟩ : ∃ n, Hid (comm s q i = n) := ⟨_, rfl⟩
          rw [hn.out] at hhit hcm
          have hnx := seen_skip (s := s) (at_ := i) (m := q) (by omega)
          have hpl := prev_le s (key3 s i) q
          have hpq : 0 < prev s (key3 s i) q → key3 s (prev s (key3 s i) q - 1) = key3 s i := fun h => (prev_key q h).1
          have hXq : X[q]? = some (.int .i64 (prev s (key3 s i) q : Nat)) := by
            rw [← hX.out]
            refine nums_get ?_
            rw [← hk']
            exact HB.out.get q (by omega) (by omega)
          rw [hhit] at hnx
          obtain ⟨p2, hp2⟩ : ∃ p2, Hid (prev s (key3 s i) q = p2) := ⟨_, rfl⟩
          rw [hp2.out] at hnx hpl hpq hXq
          have HX := Lib.hid hXq
          have HN := Lib.hid hnx
          have HP := Lib.hid hpq
          clear hXq hnx hpq hhit hsn hk' e1
          have c0 := H.cells
          have hqi : q < i := by omega
          by_cases hln : l < n
          · have HN' : Hid (seen s i p2 = (n, i - q)) := Lib.hid (by rw [HN.out, if_pos hln])
            have hlnI : (l : Int) < (n : Int) := by omega
            go_wp2_with fail
            refine (fsame_any H (show q ≤ i by omega) (by omega) hs).mono ?_
            rintro e w1 ⟨_, rfl, rfl, H1⟩
            rw [hn.out]
            clear H c0
            have c0 := H1.cells
            have c1 := (H1.front 2 rfl).rd.cell HX.out
            rw [Nat.zero_add] at c1
            go_wp2_with fail
            go_roundw
            case rel => exact ⟨n, i - q, p2, by go_num, by simp; omega, by go_num, by omega, HN', HP, H1⟩
            case measure => simp [intOf]; omega
          · have HN' : Hid (seen s i p2 = (l, d)) := Lib.hid (by rw [HN.out, if_neg hln])
            have hlnI : ¬ (l : Int) < (n : Int) := by omega
            go_wp2_with fail
            refine (fsame_any H (show q ≤ i by omega) (by omega) hs).mono ?_
            rintro e w1 ⟨_, rfl, rfl, H1⟩
            rw [hn.out]
            clear H c0
            have c0 := H1.cells
            have c1 := (H1.front 2 rfl).rd.cell HX.out
            rw [Nat.zero_add] at c1
            go_wp2_with fail
            go_roundw
            case rel => exact ⟨l, d, p2, by go_num, by go_num, by go_num, by omega, HN', HP, H1⟩
            case measure => simp [intOf]; omega
        · have hwI : ¬ (i : Int) - (q : Int) ≤ 4096 := by omega
          have hend : Hid (F = (l, d)) := Lib.hid (by rw [← hsn.out, ← hF.out]; exact (seen_end hpi (.inr (by omega))).symm)
          clear hsn hk' e1
          go_wp2
          go_ret2
          refine ⟨_, rfl, by rw [hend.out]; rfl, fnd_shut (b := b) (v := .slice (some ⟨rb, 0, none⟩) s.size c) HB.out ?_⟩
          rw [hG.out, hX.out]
          exact H
  · have h3I : (s.size : Int) < (i : Int) + 3 := by omega
    have hf := Lib.hid (found_none (s := s) (at_ := i) (by omega))
    have c0 := H.cells
    go_enter Try.func43, Try.ntmps43
    go_wp2
    go_ret2
    exact ⟨_, rfl, by rw [hf.out]; rfl, H0⟩
end Go.Proofs.Ytnebacnmbigaaaa
/- lz: the walk of Parse. -/
namespace Go.Proofs.Ytnebacnmbigaaaa
open Go.RowKit Go.Maps

set_option maxRecDepth 100000 in
theorem tokInfo : (Try.prog.info? 44).map (fun i => (i.zero, i.size, i.bytes)) = some (some (tval ⟨0, 0, 0⟩), 3, 24) := by kernel_rfl

set_option maxRecDepth 100000 in
set_option maxHeartbeats 3200000 in
theorem lzparse_any {w0 w : World} {ps : List Piece} {s : ByteArray} (H : Own w0 w ps) (hs : s.size ≤ 1000000) :
    Calls Try.prog 18 #[.string s] w (Ret fun v w' => Own w0 w' (slc 44 3 v (parse s).length (rows tcell (parse s)) :: ps)) := by
  have hmk : ∀ w : World, (Instr.makeSlice 31 (.int .i64 s.size) (.int .i64 s.size)).run Try.prog w = .ok (.slice (some ⟨w.heap.size, 0, none⟩) s.size s.size) (w.alloc (.cells (madeCells #[.int .i64 0] s.size) 3)) := run_make_row' _ _ _ 8 Try.underlying31 intInfo rfl .i64 .i64 s.size (by omega) (by omega)
  have hmm := fun w => run_makeMap (P := Try.prog) 83 w
  have hnew : Own w0 (((w.alloc (.map #[] 0)).alloc (.cells (madeCells #[.int .i64 0] s.size) 3)).alloc (.cells #[.string s, .map (some w.heap.size), .slice (some ⟨w.heap.size + 1, 0, none⟩) s.size s.size] 85)) (Fnd (w.heap.size + 1 + 1) s 0 :: ps) := by
    have h1 := (H.mpi_new (P := Try.prog) (K := 113) (E := 3) (enc := k3)).alloc2 (.cells (madeCells #[.int .i64 0] s.size) 3) (.cells #[.string s, .map (some w.heap.size), .slice (some ⟨w.heap.size + 1, 0, none⟩) s.size s.size] 85)
    have e : (w.alloc (.map #[] 0)).heap.size = w.heap.size + 1 := by simp
    rw [e] at h1
    have h2 := h1.swap.slc_mk (xs := nums (List.replicate s.size 0)) (n := s.size) (size := 1) (by simp [nums]) (Nat.le_refl _) (by simp [maxLen]; omega) (by simp [size_madeCells]) (by rw [toList_madeCells_one]; simp [nums])
    refine fnd_shut (b := w.heap.size) (v := .slice (some ⟨w.heap.size + 1, 0, none⟩) s.size s.size) (xs := List.replicate s.size 0) ⟨by simp, fun q h => by omega⟩ ?_
    rw [gOf_zero]
    exact (h2.swap.front 2 rfl).swap
  have HN := Lib.hid hnew
  clear hnew
  obtain ⟨W, hW⟩ : ∃ W, Hid (parseN s s.size 0 = W) := ⟨_, rfl⟩
  have hp : Hid (parse s = W) := Lib.hid hW.out
  rw [hp.out]
  go_enter Try.func18, Try.ntmps18
  go_upto_region 2 with (fail)
  have H1 := HN.out
  clear HN H
  generalize ((w.alloc (.map #[] 0)).alloc (.cells (madeCells #[.int .i64 0] s.size) 3)).alloc (.cells #[.string s, .map (some w.heap.size), .slice (some ⟨w.heap.size + 1, 0, none⟩) s.size s.size] 85) = wx at *
  generalize w.heap.size + 1 + 1 = g at *
  have H := (H1.nil 44 3).swap
  clear H1
  go_wp2_with fail
  go_loopw [4, 5] (fun s4 s5 wr => ∃ (i f : Nat) (l : List Tok), s5 = .int .i64 i ∧ i ≤ s.size ∧ s.size ≤ i + f ∧ Hid (l ++ parseN s f i = W) ∧ l.length ≤ i ∧ Own w0 wr (Fnd g s i :: slc 44 3 s4 l.length (rows tcell l) :: ps)) (fun _ s5 _ => s.size - (intOf s5).toNat)
  case atStart => exact ⟨0, s.size, [], by simp, by omega, by omega, hW, by simp, H⟩
  case round =>
    clear H
    obtain ⟨i, f, l, rfl, hi, hf, hl, hll, H⟩ := hrel
    by_cases hlt : i < s.size
    · have hltI : (i : Int) < (s.size : Int) := by omega
      obtain ⟨f, rfl⟩ : ∃ f', f = f' + 1 := ⟨f - 1, by omega⟩
      have hpn : parseN s (f + 1) i = tokAt s i :: parseN s f (i + stepAt s i) := by rw [parseN, if_pos hlt]
      have hsl := stepAt_le hlt
      have hsp := stepAt_pos s i
      have hst : stepAt s i = if 3 ≤ (found s i).1 then (found s i).1 else 1 := rfl
      have htk : tokAt s i = if 3 ≤ (found s i).1 then ⟨(found s i).1, (found s i).2, 0⟩ else ⟨0, 0, (byt s i).toNat⟩ := rfl
      obtain ⟨m, hm⟩ : ∃ m, Hid (stepAt s i = m) := ⟨_, rfl⟩
      obtain ⟨t, ht⟩ : ∃ t, Hid (tokAt s i = t) := ⟨_, rfl⟩
      rw [hm.out] at hst hpn hsl hsp
      rw [ht.out] at htk hpn
      have hl2 : Hid ((l ++ [t]) ++ parseN s f (i + m) = W) := Lib.hid (by rw [← hl.out, hpn]; simp)
      clear hl hpn
      obtain ⟨n, d, hF⟩ : ∃ n d, Hid (found s i = (n, d)) := ⟨_, _, rfl⟩
      rw [hF.out] at hst htk
      go_upto_region 5 with (fail)
      go_wp2_with fail
      refine (lzfind_any H hlt hs).mono ?_
      rintro e w1 ⟨_, rfl, rfl, H1⟩
      rw [hF.out]
      clear H
      have e0 := byt_is hlt
      have hx8 := (byt s i).toNat_lt
      have hwx : wrap64 (((byt s i).toNat : Nat) : Int) = (((byt s i).toNat : Nat) : Int) := IntWalk.wrap64_in _ ⟨by omega, by omega⟩
      obtain ⟨cv, hcv⟩ : ∃ cv, Hid (w1.heap.size = cv) := ⟨_, rfl⟩
      by_cases h3 : 3 ≤ n
      case pos =>
        have h3I : ¬ (n : Int) < 3 := by omega
        rw [if_pos h3] at hst htk
        subst hst
        have HT := Lib.hid htk
        clear htk hwx e0 hx8
        go_upto_region 10 with (refine wpList_store_agg rfl _ _ rfl rfl (H1.alloc _) rfl (by kernel_rfl) (by simp) (by simp; exact ⟨rfl, rfl, rfl⟩) rfl ?_; clear H1; intro w5 H; rw [hcv.out] at H ⊢)
        have H : Own w0 w5 (blk cv (.cells #[.int .i64 t.len, .int .i64 t.dist, .int .i64 t.lit] 44) :: Fnd g s i :: slc 44 3 u4 l.length (rows tcell l) :: ps) := by rw [HT.out]; exact H
        clear h3 h3I hF
        go_wp2_with fail
        go_loopw [5, 37] (fun s5 s37 wr => ∃ k : Nat, s5 = .int .i64 ((i + k : Nat) : Int) ∧ s37 = .int .i64 k ∧ k ≤ m ∧ Own w0 wr (blk cv (.cells #[.int .i64 t.len, .int .i64 t.dist, .int .i64 t.lit] 44) :: Fnd g s (i + k) :: slc 44 3 u4 l.length (rows tcell l) :: ps)) (fun _ s37 _ => m - (intOf s37).toNat)
        case atStart => exact ⟨0, by simp, by simp, by omega, H⟩
        case round =>
          clear H
          obtain ⟨k, rfl, rfl, hk, H⟩ := hrel
          by_cases hkm : k < m
          · have hkI : (k : Int) < (m : Int) := by omega
            obtain ⟨j, hj⟩ : ∃ j, Hid (i + k = j) := ⟨_, rfl⟩
            have hjs : j < s.size := by have := hj.out; omega
            rw [hj.out] at H ⊢
            go_wp2_with fail
            refine (fput_any H.swap hjs hs).mono ?_
            rintro e w6 ⟨_, rfl, H6⟩
            clear H
            go_wp2_with fail
            go_roundw
            case rel => exact ⟨k + 1, by have := hj.out; go_num; try omega, by go_num, by omega, (by rw [← Nat.add_assoc, hj.out]; exact H6.swap)⟩
            case measure => simp [intOf]; omega
          · have hkI : ¬ (k : Int) < (m : Int) := by omega
            have hke : m = k := by omega
            rw [hke] at hl2 hsl hsp
            have c0 := H.cells
            obtain ⟨a', c', rfl, h1', h2'⟩ := (H.front 2 rfl).rd.shape
            go_wp2_with (at_builtin; refine wpList_append_one rfl _ _ rfl Try.underlying41 tokInfo rfl (by decide) rfl (H.front 2 rfl) (news := tcell t) rfl rfl rfl (tcell_one t) (by omega) (by omega) ?_; clear H c0; intro v' w7 H)
            go_roundw
            case rel =>
              refine ⟨i + k, f, l ++ [t], by go_num, by omega, by omega, hl2, by simp; omega, ?_⟩
              rw [rows_append, rows_one, List.length_append]
              exact ((((H.front 2 rfl).front 2 rfl).drop))
            case measure => simp [intOf]; omega
      case neg =>
        have h3I : (n : Int) < 3 := by omega
        rw [if_neg h3] at hst htk
        subst hst
        have HT := Lib.hid htk
        clear htk
        go_upto_region 10 with (first
          | (refine wpList_store_agg rfl _ _ rfl rfl (H1.alloc _) rfl (by kernel_rfl) (by simp) (by simp; exact ⟨rfl, rfl, rfl⟩) rfl ?_; clear H1; intro w4 H4; rw [hcv.out] at H4 ⊢)
          | (refine wpList_store_agg (vs := tcell ⟨0, 0, (byt s i).toNat⟩) rfl _ _ rfl rfl H4 (by first | rfl | (go_simp; done)) (by kernel_rfl) (by simp [tcell]) (tcell_one _) rfl ?_; clear H4; intro w5 H))
        have H : Own w0 w5 (blk cv (.cells #[.int .i64 t.len, .int .i64 t.dist, .int .i64 t.lit] 44) :: Fnd g s i :: slc 44 3 u4 l.length (rows tcell l) :: ps) := by rw [HT.out]; exact H
        clear hwx e0 hx8
        clear h3 h3I hF
        go_wp2_with fail
        go_loopw [5, 37] (fun s5 s37 wr => ∃ k : Nat, s5 = .int .i64 ((i + k : Nat) : Int) ∧ s37 = .int .i64 k ∧ k ≤ 1 ∧ Own w0 wr (blk cv (.cells #[.int .i64 t.len, .int .i64 t.dist, .int .i64 t.lit] 44) :: Fnd g s (i + k) :: slc 44 3 u4 l.length (rows tcell l) :: ps)) (fun _ s37 _ => 1 - (intOf s37).toNat)
        case atStart => exact ⟨0, by simp, by simp, by omega, H⟩
        case round =>
          clear H
          obtain ⟨k, rfl, rfl, hk, H⟩ := hrel
          by_cases hkm : k < 1
          · have hkI : (k : Int) < 1 := by omega
            obtain ⟨j, hj⟩ : ∃ j, Hid (i + k = j) := ⟨_, rfl⟩
            have hjs : j < s.size := by have := hj.out; omega
            rw [hj.out] at H ⊢
            go_wp2_with fail
            refine (fput_any H.swap hjs hs).mono ?_
            rintro e w6 ⟨_, rfl, H6⟩
            clear H
            go_wp2_with fail
            go_roundw
            case rel => exact ⟨k + 1, by have := hj.out; go_num; try omega, by go_num, by omega, (by rw [← Nat.add_assoc, hj.out]; exact H6.swap)⟩
            case measure => simp [intOf]; omega
          · have hkI : ¬ (k : Int) < 1 := by omega
            obtain rfl : k = 1 := by omega
            have c0 := H.cells
            obtain ⟨a', c', rfl, h1', h2'⟩ := (H.front 2 rfl).rd.shape
            go_wp2_with (at_builtin; refine wpList_append_one rfl _ _ rfl Try.underlying41 tokInfo rfl (by decide) rfl (H.front 2 rfl) (news := tcell t) rfl rfl rfl (tcell_one t) (by omega) (by omega) ?_; clear H c0; intro v' w7 H)
            go_roundw
            case rel =>
              refine ⟨i + 1, f, l ++ [t], by go_num, by omega, by omega, hl2, by simp; omega, ?_⟩
              rw [rows_append, rows_one, List.length_append]
              exact ((((H.front 2 rfl).front 2 rfl).drop))
            case measure => simp [intOf]; omega
    · have hltI : ¬ (i : Int) < (s.size : Int) := by omega
      have hfin : Hid (l = W) := Lib.hid (by rw [← hl.out, parseN_end (by omega)]; simp)
      clear hl
      go_wp2
      go_ret
      refine ⟨_, rfl, ?_⟩
      rw [← hfin.out]
      exact H.drop
end Go.Proofs.Ytnebacnmbigaaaa
/- Bits: a new writer. -/
namespace Go.Proofs.Ytnebacnmbigaaaa
open Go.RowKit

theorem alloc_heap_size' (w : World) (o : Obj) : (w.alloc o).heap.size = w.heap.size + 1 := Array.size_push ..
/-- A new writer. -/
theorem Own.newWtr {w0 w : World} {ps : List Piece} (H : Own w0 w ps) : Own w0 (w.alloc (.cells #[.slice none 0 0, .int .i64 0] 34)) (Wtr w.heap.size [] :: ps) := by
  have h := (H.alloc (.cells #[.slice none 0 0, .int .i64 0] 34)).nil 5 1
  exact Own.unwtr (n := 0) h.swap rfl rfl rfl
end Go.Proofs.Ytnebacnmbigaaaa
/- Bits: Writer.Bytes. -/
namespace Go.Proofs.Ytnebacnmbigaaaa
open Go.RowKit

theorem bytes_any {w0 w : World} {ps : List Piece} {g : Nat} {bs : List Bool} (H : Own w0 w (Wtr g bs :: ps)) :
    Calls Try.prog 22 #[.pointer (some ⟨g, 0, none⟩)] w fun e w' => e = .returned (.string (textOf bs)) ∧ w' = w := by
  obtain ⟨a, cp, hc1, hc2, H⟩ := H.wtr
  have c0 := H.cells
  have hs := run_string_sep (P := Try.prog) 32 9 Try.underlying32 Try.underlying5 Try.underlying9 (H.front 1 rfl).rd
  rw [show strOfNums (bytesOf bs) = textOf bs from rfl] at hs
  obtain ⟨n, hn⟩ : ∃ n, n = nbytes bs.length := ⟨_, rfl⟩
  simp only [← hn] at hs c0
  clear hn
  go_enter Try.func22, Try.ntmps22
  go_wp2
  go_ret
  exact ⟨rfl, rfl⟩
end Go.Proofs.Ytnebacnmbigaaaa
/- flate: the walks of a block by the fixed codes; of Simple. -/
namespace Go.Proofs.Ytnebacnmbigaaaa
open Go.RowKit

theorem fix_sym {t : Tok} (h : TokOk t) : SymOk fixL fixD t := by
  refine ⟨h, fun h0 => ?_, fun h0 => ?_⟩
  · rw [fixL_ok.1]; rcases h with h | h <;> omega
  · have h1 : 3 ≤ t.len ∧ t.len ≤ 258 ∧ 1 ≤ t.dist ∧ t.dist ≤ 32768 := by rcases h with h | h <;> omega
    have h2 := lenSym_bd (n := t.len.toNat) (by omega)
    have h3 := distSym_bd (n := t.dist.toNat) (by omega)
    rw [fixL_ok.1, fixD_ok.1]
    omega
theorem fixL_wt : sumF wtF fixL ≤ 2 ^ 15 := (table_ok fixL_ok.2.2).2.2
theorem fixD_wt : sumF wtF fixD ≤ 2 ^ 15 := (table_ok fixD_ok.2.2).2.2
theorem parse_ok (s : ByteArray) : ∀ t ∈ parse s, TokOk t := by
  have key : ∀ f i, ∀ t ∈ parseN s f i, TokOk t := by
    intro f
    induction f with
    | zero => intro i t h; simp [parseN] at h
    | succ f ih =>
      intro i t h
      rw [parseN] at h
      split at h
      · rcases List.mem_cons.1 h with rfl | h
        · exact may_ok (n := i) tokAt_may
        · exact ih _ t h
      · simp at h
  exact key _ _
theorem parse_len (s : ByteArray) : (parse s).length ≤ s.size := by
  have key : ∀ f i, (parseN s f i).length ≤ f := by
    intro f
    induction f with
    | zero => intro i; simp [parseN]
    | succ f ih =>
      intro i
      rw [parseN]
      split
      · have := ih (i + stepAt s i); simp; omega
      · simp
  exact key _ _
theorem blockB_le {l : List Tok} (ht : ∀ t ∈ l, TokOk t) (last : Bool) : (blockB l 1 last).length ≤ 48 * l.length + 18 := by
  unfold blockB
  rw [if_pos rfl, List.length_append]
  have := bodyB_le fixL_bd fixD_bd ht
  simp [headB, bitsOf_length]
  omega

set_option maxRecDepth 100000 in
set_option maxHeartbeats 3200000 in
theorem block1_any {w0 w : World} {ps : List Piece} {g : Nat} {bs : List Bool} {tv : Value} {l : List Tok} (last : Bool) (ht : Reads w0 ps 3 tv l.length (rows tcell l)) (hs : ∀ t ∈ l, TokOk t) (H : Own w0 w (Wtr g bs :: ps)) (hl : bs.length + 48 * l.length ≤ 35184372070000) :
    Calls Try.prog 23 #[.pointer (some ⟨g, 0, none⟩), tv, .int .i64 1, .bool last] w (Ret fun _ w' => Own w0 w' (Wtr g (bs ++ blockB l 1 last) :: ps)) := by
  obtain ⟨ta, tc, rfl, ht1, ht2⟩ := (ht w H.drop).shape
  have h1 := head_any last 1 (by omega) H (by omega)
  have hB : Hid (bs ++ blockB l 1 last = bs ++ headB last 1 ++ bodyB fixL fixD l) := Lib.hid (by unfold blockB; rw [if_pos rfl, List.append_assoc])
  have hBl : (bs ++ headB last 1).length ≤ bs.length + 3 := by rw [List.length_append]; simp [headB, bitsOf_length]
  rw [hB.out]
  obtain ⟨B, hB2⟩ : ∃ B, Hid (bs ++ headB last 1 = B) := ⟨_, rfl⟩
  rw [hB2.out] at h1 hBl ⊢
  obtain ⟨N, hN⟩ : ∃ N, Hid (l.length = N) := ⟨_, rfl⟩
  have HS := Lib.hid hs
  have H1 := Lib.hid h1
  have HT := Lib.hid ht
  rw [hN.out] at hl ht1 HT ⊢
  clear h1 hs ht
  go_enter Try.func23, Try.ntmps23
  go_wp2_with fail
  refine H1.out.mono ?_
  rintro e w1 ⟨_, rfl, H2⟩
  clear H
  go_wp2_with fail
  refine (fixed_any _).mono ?_
  rintro e w2 ⟨_, rfl, v, u, rfl, H3⟩
  have H := H2.join H3
  clear H2 H3
  obtain ⟨av, cv, rfl, -⟩ := (H.front 1 rfl).rd.shape
  obtain ⟨au, cu, rfl, -⟩ := (H.front 0 rfl).rd.shape
  go_wp2_with fail
  refine (made_any (H.front 1 rfl).rd (by omega) fixL_ok.2.1).mono ?_
  rintro e w3 ⟨_, rfl, vc, rfl, H3⟩
  replace H := H.join H3
  clear H3
  obtain ⟨a5, c5, rfl, -⟩ := (H.front 0 rfl).rd.shape
  go_wp2_with fail
  refine (made_any (H.front 1 rfl).rd (by omega) fixD_ok.2.1).mono ?_
  rintro e w4 ⟨_, rfl, uc, rfl, H3⟩
  replace H := H.join H3
  clear H3
  obtain ⟨a6, c6, rfl, -⟩ := (H.front 0 rfl).rd.shape
  rw [fixL_ok.1, fixD_ok.1] at H
  have H : Own w0 w4 (Wtr g B :: slc 3 1 (.slice a6 32 c6) 32 (nums (codesF fixD)) :: slc 3 1 (.slice a5 288 c5) 288 (nums (codesF fixL)) :: slc 3 1 (.slice au 32 cu) 32 (nums fixD) :: slc 3 1 (.slice av 288 cv) 288 (nums fixL) :: ps) := H.front 4 rfl
  have hL : CodOk w0 (slc 3 1 (.slice a6 32 c6) 32 (nums (codesF fixD)) :: slc 3 1 (.slice a5 288 c5) 288 (nums (codesF fixL)) :: slc 3 1 (.slice au 32 cu) 32 (nums fixD) :: slc 3 1 (.slice av 288 cv) 288 (nums fixL) :: ps) (.slice av 288 cv) (.slice a5 288 c5) fixL := ⟨fun w' h => by rw [fixL_ok.1]; exact (h.front 3 rfl).rd, fun w' h => by rw [fixL_ok.1]; exact (h.front 1 rfl).rd, fixL_bd, fixL_wt, by rw [fixL_ok.1]; omega⟩
  have hD : CodOk w0 (slc 3 1 (.slice a6 32 c6) 32 (nums (codesF fixD)) :: slc 3 1 (.slice a5 288 c5) 288 (nums (codesF fixL)) :: slc 3 1 (.slice au 32 cu) 32 (nums fixD) :: slc 3 1 (.slice av 288 cv) 288 (nums fixL) :: ps) (.slice au 32 cu) (.slice a6 32 c6) fixD := ⟨fun w' h => by rw [fixD_ok.1]; exact (h.front 2 rfl).rd, fun w' h => by rw [fixD_ok.1]; exact h.rd, fixD_bd, fixD_wt, by rw [fixD_ok.1]; omega⟩
  have hb := body_any hL hD (l := l) (tv := .slice ta N tc) (by rw [hN.out]; exact HT.out.mono fun w' h => h.drop.drop.drop.drop) (fun t h => fix_sym (HS.out t h)) (by rw [fixL_ok.1]; omega) H (by rw [hN.out]; omega)
  have HB := Lib.hid hb
  clear hb hL hD
  go_wp2_with fail
  refine HB.out.mono ?_
  rintro e w5 ⟨_, rfl, H5⟩
  go_wp2_with fail
  go_end0
  exact ⟨_, rfl, (((((H5.front 4 rfl).front 4 rfl).front 4 rfl).front 4 rfl).drop.drop.drop.drop)⟩
/-- The text packed by the fixed codes. -/
def simpleF (s : ByteArray) : ByteArray := textOf (blockB (parse s) 1 true)
set_option maxRecDepth 100000 in
theorem simple_any {w : World} (s : ByteArray) (hs : s.size ≤ 1000000) :
    Calls Try.prog 26 #[.string s] w (Ret fun r w' => r = .string (simpleF s) ∧ Own w w' []) := by
  have H := (Own.start w).newWtr
  obtain ⟨T, hT⟩ : ∃ T, Hid (parse s = T) := ⟨_, rfl⟩
  have hok := parse_ok s
  have hlen := parse_len s
  unfold simpleF
  rw [hT.out] at hok hlen ⊢
  have HOK := Lib.hid hok
  clear hok
  go_enter Try.func26, Try.ntmps26
  go_wp2_with fail
  generalize w.alloc _ = w1 at *
  generalize w.heap.size = g at *
  refine (lzparse_any H hs).mono ?_
  rintro e w2 ⟨v, rfl, H2⟩
  rw [hT.out] at H2
  clear H
  obtain ⟨a, c, rfl, -⟩ := H2.rd.shape
  have hb := block1_any (l := T) true (fun w' h => h.rd) HOK.out H2.swap (by simp; omega)
  rw [List.nil_append] at hb
  have HB := Lib.hid hb
  clear hb
  obtain ⟨N, hN⟩ : ∃ N, Hid (T.length = N) := ⟨_, rfl⟩
  rw [hN.out] at HB ⊢
  go_wp2_with fail
  refine HB.out.mono ?_
  rintro e w3 ⟨_, rfl, H3⟩
  clear H2
  go_wp2_with fail
  refine (bytes_any H3).mono ?_
  rintro e w4 ⟨rfl, rfl⟩
  go_wp2_with fail
  go_ret
  exact ⟨_, rfl, rfl, H3.bare⟩
end Go.Proofs.Ytnebacnmbigaaaa
/- flate: the walk of rich. -/
namespace Go.Proofs.Ytnebacnmbigaaaa
open Go.RowKit

set_option maxRecDepth 100000 in
set_option maxHeartbeats 25600000 in
theorem rich_any {w0 w : World} {ps : List Piece} {g : Nat} {bs : List Bool} {tv : Value} {l : List Tok} (last : Bool) (ht : Reads w0 ps 3 tv l.length (rows tcell l)) (hs : ∀ t ∈ l, TokOk t) (hln : l.length ≤ 1000000) (H : Own w0 w (Wtr g bs :: ps)) (hl : bs.length + 48 * l.length ≤ 35184372000000) :
    Calls Try.prog 49 #[.pointer (some ⟨g, 0, none⟩), tv, .bool last] w (Ret fun _ w' => Own w0 w' (Wtr g (bs ++ blockB l 2 last) :: ps)) := by
  obtain ⟨ta, tc, rfl, ht1, ht2⟩ := (ht w H.drop).shape
  obtain ⟨L, hL⟩ : ∃ L, Hid (richL l = L) := ⟨_, Lib.hid rfl⟩
  obtain ⟨D, hD⟩ : ∃ D, Hid (richD l = D) := ⟨_, Lib.hid rfl⟩
  obtain ⟨RS, hRS⟩ : ∃ RS, Hid (richR l = RS) := ⟨_, Lib.hid rfl⟩
  obtain ⟨RL, hRL⟩ : ∃ RL, Hid (runL RS = RL) := ⟨_, Lib.hid rfl⟩
  obtain ⟨SO, hSO⟩ : ∃ SO, Hid (sortedF RL = SO) := ⟨_, Lib.hid rfl⟩
  have mL := richL_made hs hln
  have mD := richD_made hs hln
  have okR := richR_ok hs hln
  have lenR := richR_len hs hln
  have oks : ∀ t ∈ l, SymOk (richL l) (richD l) t := fun t h => rich_sym hs hln h
  have oL := lit_ok hs hln
  have oD := dist_ok hs hln
  have hB : Hid (bs ++ blockB l 2 last = bs ++ headB last 2 ++ (sizesB L.length D.length SO.length ++ (lensB SO ++ (runsB RL RS ++ bodyB L D l)))) := Lib.hid (by
    unfold blockB richB
    rw [if_neg (by omega), hRS.out, hRL.out, hSO.out, hL.out, hD.out, List.append_assoc])
  rw [hB.out]
  rw [hRS.out] at okR lenR
  have mR := runL_made okR (by omega)
  have m7 := sorted_7 okR (by omega)
  have mS := sorted_len RL
  have oR := run_ok okR (by omega)
  rw [hL.out] at mL oks
  rw [hD.out] at mD oks
  rw [hRL.out] at mR m7
  rw [hSO.out] at m7 mS
  obtain ⟨N, hN⟩ : ∃ N, Hid (l.length = N) := ⟨_, Lib.hid rfl⟩
  have HS := Lib.hid hs
  have HT := Lib.hid ht
  have ML := Lib.hid mL
  have MD := Lib.hid mD
  have MR := Lib.hid mR
  have M7 := Lib.hid m7
  have OKR := Lib.hid okR
  have OKS := Lib.hid oks
  have OL := Lib.hid oL
  have OD := Lib.hid oD
  have OR := Lib.hid oR
  obtain ⟨hS1, hS2⟩ := mS
  have k0 := fun w1 h => counted2_any (ht w1 h) hs hln
  rw [hN.out] at HT ht1 hl hln k0 ⊢
  have K0 := Lib.hid k0
  clear hs ht mL mD okR oks oL oD mR m7 oR k0
  go_enter Try.func49, Try.ntmps49
  go_wp2_with fail
  refine (K0.out _ H.drop).mono ?_
  rintro e w1 ⟨_, rfl, v1, u1, rfl, J⟩
  replace H := H.join J
  clear J
  obtain ⟨a1, c1, rfl, -⟩ := H.rd.shape
  obtain ⟨a2, c2, rfl, -⟩ := (H.front 1 rfl).rd.shape
  have kl := lengths_any (L := 15) H.rd (by omega)
  have hel : errF (litFq l) 15 = 0 := errF_ok (by omega) (by rw [litFq_len]; omega) OL.out.freq (by rw [litFq_len]; decide)
  have hed : errF (distFq l) 15 = 0 := errF_ok (by omega) (by rw [distFq_len]; omega) OD.out.freq (by rw [distFq_len]; decide)
  rw [hel] at kl
  have KL := Lib.hid kl
  clear kl hel
  go_wp2_with fail
  refine KL.out.mono ?_
  rintro e w2 ⟨_, rfl, v3, rfl, J⟩
  replace H := H.join J
  clear J KL
  have kd := lengths_any (L := 15) (H.front 2 rfl).rd (by omega)
  rw [hed] at kd
  have KD := Lib.hid kd
  clear kd hed
  rw [OL.out.len, litFq_len] at H
  obtain ⟨g3, c3, rfl, -⟩ := H.at (by rw [nums_length, OL.out.len, litFq_len]; omega)
  go_wp2_with fail
  refine KD.out.mono ?_
  rintro e w3 ⟨_, rfl, v4, rfl, J⟩
  replace H := H.join J
  clear J KD
  rw [OD.out.len, distFq_len] at H
  obtain ⟨g4, c4, rfl, -⟩ := H.at (by rw [nums_length, OD.out.len, distFq_len]; omega)
  have H : Own w0 w3 (slc 3 1 (.slice (some ⟨g3, 0, none⟩) 286 c3) 286 (nums (resF (litFq l) 15)) :: slc 3 1 (.slice (some ⟨g4, 0, none⟩) 30 c4) 30 (nums (resF (distFq l) 15)) :: Wtr g bs :: ps) := ((((H.front 1 rfl).front 3 rfl).front 3 rfl).drop.drop)
  have kt := fun w1 (h : Own w0 w1 (slc 3 1 (.slice (some ⟨g3, 0, none⟩) 286 c3) 286 (nums (resF (litFq l) 15)) :: slc 3 1 (.slice (some ⟨g4, 0, none⟩) 30 c4) 30 (nums (resF (distFq l) 15)) :: Wtr g bs :: ps)) => trim_own 257 h (by rw [OL.out.len, litFq_len]) (by omega) (by omega)
  have kt2 := fun w1 (qs : List Piece) (h : Own w0 w1 (slc 3 1 (.slice (some ⟨g4, 0, none⟩) 30 c4) 30 (nums (resF (distFq l) 15)) :: qs)) => trim_own 1 h (by rw [OD.out.len, distFq_len]) (by omega) (by omega)
  rw [show trimF (resF (litFq l) 15) 257 = L from hL.out] at kt
  have hD2 : trimF (resF (distFq l) 15) 1 = D := hD.out
  simp only [hD2] at kt2
  have KT := Lib.hid kt
  have KT2 := Lib.hid kt2
  clear kt kt2 hD2
  go_wp2_with fail
  refine (KT.out _ H).mono ?_
  rintro e w4 ⟨_, rfl, rfl, H4⟩
  clear H
  go_wp2_with fail
  refine (KT2.out _ _ H4.swap).mono ?_
  rintro e w5 ⟨_, rfl, rfl, H⟩
  clear H4 KT KT2
  obtain ⟨nL, hnL⟩ : ∃ n, Hid (L.length = n) := ⟨_, Lib.hid rfl⟩
  obtain ⟨nD, hnD⟩ : ∃ n, Hid (D.length = n) := ⟨_, Lib.hid rfl⟩
  have hnL1 := ML.out.lo
  have hnL2 := ML.out.hi
  have hnD1 := MD.out.lo
  have hnD2 := MD.out.hi
  rw [hnL.out] at H hnL1 hnL2 ⊢
  rw [hnD.out] at H hnD1 hnD2 ⊢
  go_wp2_with fail
  have H5 := H.alloc (.cells #[.slice (some ⟨g3, 0, none⟩) nL c3, .slice (some ⟨g4, 0, none⟩) nD c4] 31)
  have hrow : Rd (w5.alloc (.cells #[.slice (some ⟨g3, 0, none⟩) nL c3, .slice (some ⟨g4, 0, none⟩) nD c4] 31)) 1 (.slice (some ⟨w5.heap.size, 0, none⟩) 2 2) 2 [.slice (some ⟨g3, 0, none⟩) nL c3, .slice (some ⟨g4, 0, none⟩) nD c4] := by
    refine ⟨rfl, _, _, rfl, Nat.le_refl _, by decide, by simp, fun ad had j u hu => ?_⟩
    obtain rfl := Option.some.inj had
    rw [Addr.add_lit, Nat.zero_add, H5.cell]
    simpa using hu
  have hcc := concat_any [L, D] [.slice (some ⟨g3, 0, none⟩) nL c3, .slice (some ⟨g4, 0, none⟩) nD c4] hrow rfl rfl (by omega) (fun k u X hu hX => by
    match k with
    | 0 => cases hu; cases hX; rw [hnL.out]; exact (H5.front 2 rfl).rd
    | 1 => cases hu; cases hX; rw [hnD.out]; exact (H5.front 1 rfl).rd
    | k + 2 => cases hu) (by simp [hnL.out, hnD.out]; omega)
  have hfl : [L, D].flatten = L ++ D := by simp
  have hfll : (L ++ D).length = nL + nD := by rw [List.length_append, hnL.out, hnD.out]
  rw [hfl, hfll] at hcc
  have HCC := Lib.hid hcc
  have H6 : Own w0 (w5.alloc (.cells #[.slice (some ⟨g3, 0, none⟩) nL c3, .slice (some ⟨g4, 0, none⟩) nD c4] 31)) (slc 3 1 (.slice (some ⟨g3, 0, none⟩) nL c3) nL (nums L) :: slc 3 1 (.slice (some ⟨g4, 0, none⟩) nD c4) nD (nums D) :: Wtr g bs :: ps) := (H5.drop).swap
  clear hcc hrow H5 H hfl hfll
  generalize w5.alloc _ = w6 at *
  generalize w5.heap.size = gr at *
  refine HCC.out.mono ?_
  rintro e w7 ⟨v7, rfl, J⟩
  have H := H6.join J
  clear J HCC H6
  have hrn := runs_any H.rd (by omega)
  rw [show runsF (L ++ D) = RS by rw [← hRS.out, ← hL.out, ← hD.out]; rfl] at hrn
  have HRN := Lib.hid hrn
  clear hrn
  obtain ⟨a7, c7, rfl, -⟩ := H.rd.shape
  obtain ⟨nR, hnR⟩ : ∃ n, Hid (RS.length = n) := ⟨_, Lib.hid rfl⟩
  rw [hnR.out] at HRN lenR
  go_wp2_with fail
  refine HRN.out.mono ?_
  rintro e w8 ⟨v8, rfl, J⟩
  have H8 := H.join J
  clear J HRN H
  obtain ⟨a8, c8, rfl, -⟩ := H8.rd.shape
  have H : Own w0 w8 (slc 122 3 (.slice a8 nR c8) nR (rows rcell RS) :: slc 3 1 (.slice (some ⟨g3, 0, none⟩) nL c3) nL (nums L) :: slc 3 1 (.slice (some ⟨g4, 0, none⟩) nD c4) nD (nums D) :: Wtr g bs :: ps) := ((H8.front 1 rfl).drop)
  clear H8
  have hmk : ∀ w : World, (Instr.makeSlice 31 (.int .i64 19) (.int .i64 19)).run Try.prog w = .ok (.slice (some ⟨w.heap.size, 0, none⟩) 19 19) (w.alloc (.cells (madeCells #[.int .i64 0] 19) 3)) := run_make_row' _ _ _ 8 Try.underlying31 intInfo rfl .i64 .i64 19 (by omega) (by omega)
  go_upto_region 6 with (fail)
  have h9 := (H.alloc (.cells (madeCells #[.int .i64 0] 19) 3)).slc_mk (xs := nums (runFq (RS.take 0))) (n := 19) (size := 1) (by rw [nums_length, runFq_len]) (Nat.le_refl _) (by simp [maxLen]) (by simp [size_madeCells]) (by rw [toList_madeCells_one]; rfl)
  clear H hmk
  generalize w8.alloc _ = w9 at *
  generalize w8.heap.size = gf at *
  have H := h9
  clear h9
  go_wp2_with fail
  go_loopw [53] (fun s53 wx => ∃ k : Nat, s53 = .int .i64 k ∧ k ≤ nR ∧ Own w0 wx (slc 3 1 (.slice (some ⟨gf, 0, none⟩) 19 19) 19 (nums (runFq (RS.take k))) :: slc 122 3 (.slice a8 nR c8) nR (rows rcell RS) :: slc 3 1 (.slice (some ⟨g3, 0, none⟩) nL c3) nL (nums L) :: slc 3 1 (.slice (some ⟨g4, 0, none⟩) nD c4) nD (nums D) :: Wtr g bs :: ps)) (fun s53 _ => nR - (intOf s53).toNat)
  case atStart => exact ⟨0, by go_num, by omega, H⟩
  case round =>
    clear H
    obtain ⟨k, rfl, hk, H⟩ := hrel
    by_cases hlt : k < nR
    · have hI : (k : Int) < (nR : Int) := by omega
      obtain ⟨t, htk⟩ := get_of_lt (l := RS) (k := k) (by rw [hnR.out]; exact hlt)
      have hok := OKR.out t (List.mem_of_getElem? htk)
      have hls := made_freq RS k t htk
      obtain ⟨b, o, _, he2, -⟩ := (H.front 1 rfl).rd.some (by rw [rows_length rcell rcell_length, hnR.out]; omega)
      cases he2
      obtain ⟨c0, cc1, cc2⟩ := run_cells (H.front 1 rfl).rd htk
      have hkl : Hid (∀ j, 0 ≤ (runFq (RS.take k)).getD j 0 ∧ (runFq (RS.take k)).getD j 0 ≤ 100000) := Lib.hid (fun j => by
        rw [runFq_get (fun r h => OKR.out r (List.mem_of_mem_take h))]
        have := List.countP_le_length (p := fun x : Int => decide (x = (j : Int))) (l := (RS.take k).map Run.sym)
        rw [List.length_map, List.length_take] at this
        omega)
      have hfl := runFq_len (RS.take k)
      obtain ⟨hsy, -, -⟩ := hok
      obtain ⟨x, y, z⟩ := t
      simp only at c0 cc1 cc2 hsy hls
      obtain ⟨s, rfl⟩ : ∃ s : Nat, x = s := ⟨x.toNat, by omega⟩
      have hst := nums_bump (runFq (RS.take k)) s
      rw [← hls] at hst
      have cf := H.getc (nums_get (getD_get (F := runFq (RS.take k)) (i := s) (by omega)))
      have hb := hkl.out s
      obtain ⟨v, hv⟩ : ∃ v, (runFq (RS.take k)).getD s 0 = v := ⟨_, rfl⟩
      rw [hv] at hb cf hst
      have hw : IntKind.i64.wrap (v + 1) = v + 1 := IntWalk.i64_in _ ⟨by omega, by omega⟩
      have hsI : (s : Int) < 19 := by omega
      have HST := Lib.hid hst
      have hs19 : s < 19 := by omega
      have CF := Lib.hid (show (nums (runFq (RS.take k)))[s]? = some (.int .i64 v) by rw [← hv]; exact nums_get (getD_get (by omega)))
      clear htk hls hkl hfl hv hst cf
      go_upto_region 9 with (refine wpList_store_agg (vs := [.int .i64 s, .int .i64 y, .int .i64 z]) rfl _ _ rfl rfl (H.alloc _) rfl (by kernel_rfl) (by simp) (by simp; exact ⟨rfl, rfl, rfl⟩) rfl ?_; clear c0 cc1 cc2; intro w10 H10)
      clear H
      generalize wr.heap.size = tb at *
      have c0 := H10.cells
      have cf := (H10.front 1 rfl).getc CF.out
      go_wp2_with (refine wpList_store_slc rfl _ _ rfl rfl (H10.front 1 rfl) (.int .i64 (v + 1)) rfl (by kernel_rfl) hs19 rfl ?_; clear H10 c0 cf; intro w11 H; rw [HST.out] at H)
      go_roundw
      case rel => exact ⟨k + 1, by go_num, by omega, H.swap.drop⟩
      case measure => simp [intOf]; omega
    · obtain rfl : k = nR := by omega
      have hI : ¬ (k : Int) < (k : Int) := by omega
      have htk : RS.take k = RS := List.take_of_length_le (by rw [hnR.out]; exact Nat.le_refl _)
      rw [htk] at H
      have kl := lengths_any (L := 7) H.rd (by omega)
      have hel : errF (runFq RS) 7 = 0 := errF_ok (by omega) (by rw [runFq_len]; omega) OR.out.freq (by rw [runFq_len]; decide)
      have hrl : resF (runFq RS) 7 = RL := hRL.out
      have hrll : RL.length = 19 := by have := MR.out.lo; have := MR.out.hi; omega
      rw [hel, hrl, hrll] at kl
      have KL := Lib.hid kl
      have HRLL := Lib.hid hrll
      clear kl hel hrl htk hrll
      go_wp2_with fail
      refine KL.out.mono ?_
      rintro e w12 ⟨_, rfl, v5, rfl, J⟩
      replace H := H.join J
      clear J KL
      obtain ⟨g5, c5, rfl, -⟩ := H.at (by rw [nums_length, HRLL.out]; omega)
      have H : Own w0 w12 (slc 3 1 (.slice (some ⟨g5, 0, none⟩) 19 c5) 19 (nums RL) :: slc 122 3 (.slice a8 k c8) k (rows rcell RS) :: slc 3 1 (.slice (some ⟨g3, 0, none⟩) nL c3) nL (nums L) :: slc 3 1 (.slice (some ⟨g4, 0, none⟩) nD c4) nD (nums D) :: Wtr g bs :: ps) := ((H.front 1 rfl).drop)
      go_wp2_with fail
      refine (order_any _).mono ?_
      rintro e w13 ⟨_, rfl, rfl, J⟩
      have H : Own w0 w13 (slc 3 1 (.slice (some ⟨g5, 0, none⟩) 19 c5) 19 (nums RL) :: slc 122 3 (.slice a8 k c8) k (rows rcell RS) :: slc 3 1 (.slice (some ⟨g3, 0, none⟩) nL c3) nL (nums L) :: slc 3 1 (.slice (some ⟨g4, 0, none⟩) nD c4) nD (nums D) :: Wtr g bs :: ps) := H.join J
      clear J
      have hord : Hid (∀ j, j < 19 → (nums (ordF.map Int.ofNat)).toArray[j]? = some (.int .i64 ((ordF.getD j 0 : Nat) : Int)) ∧ ordF.getD j 0 < 19) := Lib.hid (fun j hj => by
        have := (show ∀ j : Fin 19, ordF.getD j.1 0 < 19 ∧ (ordF.map Int.ofNat)[j.1]? = some ((ordF.getD j.1 0 : Nat) : Int) by decide) ⟨j, hj⟩
        refine ⟨?_, this.1⟩
        rw [List.getElem?_toArray]
        exact nums_get this.2)
      have hordl : Hid ((nums (ordF.map Int.ofNat)).toArray.size = 19) := Lib.hid rfl
      generalize (nums (ordF.map Int.ofNat)).toArray = OA at *
      replace H := H.nil 3 1
      go_wp2_with fail
      obtain ⟨MO, hMO0⟩ : ∃ MO, Hid ((ordF.map fun s => RL.getD s 0) = MO) := ⟨_, Lib.hid rfl⟩
      have hMO : Hid (MO.length = 19) := Lib.hid (by rw [← hMO0.out, List.length_map]; rfl)
      have hMg : Hid (∀ j, j < 19 → MO.getD j 0 = RL.getD (ordF.getD j 0) 0) := Lib.hid (fun j hj => by
        rw [← hMO0.out, List.getD_eq_getElem?_getD, List.getElem?_map, List.getD_eq_getElem?_getD (l := ordF)]
        rw [List.getElem?_eq_getElem (show j < ordF.length from hj)]
        rfl)
      have hSO2 : Hid (trimF MO 4 = SO) := Lib.hid (by rw [← hMO0.out]; exact hSO.out)
      go_loopw [18, 71] (fun s18 s71 wx => ∃ i : Nat, s71 = .int .i64 i ∧ i ≤ 19 ∧ Own w0 wx (slc 3 1 s18 i (nums (MO.take i)) :: slc 3 1 (.slice (some ⟨g5, 0, none⟩) 19 c5) 19 (nums RL) :: slc 122 3 (.slice a8 k c8) k (rows rcell RS) :: slc 3 1 (.slice (some ⟨g3, 0, none⟩) nL c3) nL (nums L) :: slc 3 1 (.slice (some ⟨g4, 0, none⟩) nD c4) nD (nums D) :: Wtr g bs :: ps)) (fun _ s71 _ => 19 - (intOf s71).toNat)
      case atStart => exact ⟨0, by go_num, by omega, H⟩
      case round =>
        clear H
        obtain ⟨i, rfl, hi, H⟩ := hrel
        obtain ⟨a9, c9, rfl, -⟩ := H.rd.shape
        by_cases hi19 : i < 19
        · have hiI : (i : Int) < 19 := by omega
          obtain ⟨ho1, ho2⟩ := hord.out i hi19
          have hmg := hMg.out i hi19
          have hsn : Hid (nums (MO.take i) ++ [.int .i64 (MO.getD i 0)] = nums (MO.take (i + 1))) := Lib.hid (by
            rw [List.take_add_one, getD_get (by rw [hMO.out]; exact hi19)]; simp [nums])
          have cr := (H.front 1 rfl).getc (nums_get (getD_get (F := RL) (i := ordF.getD i 0) (by rw [HRLL.out]; exact ho2)))
          rw [← hmg] at cr
          have hix : ∀ w, (Instr.index 105 (.agg OA) (.int .i64 i)).run Try.prog w = .ok (.int .i64 ((ordF.getD i 0 : Nat) : Int)) w := fun w => run_index_arr _ _ 19 OA i _ w Try.underlying105 (fun w => (int_one w).1) (fun w => (int_one w).2) hi19 ho1
          have ho2I : ((ordF.getD i 0 : Nat) : Int) < 19 := by omega
          obtain ⟨oj, hoj⟩ : ∃ oj, ordF.getD i 0 = oj := ⟨_, rfl⟩
          obtain ⟨mv, hmv⟩ : ∃ mv, MO.getD i 0 = mv := ⟨_, rfl⟩
          rw [hoj] at ho1 ho2 ho2I cr hix
          rw [hmv] at hsn cr
          clear hoj hmv
          clear hmg
          go_wp2_with (at_builtin; refine wpList_append_one rfl _ _ rfl Try.underlying31 intInfo rfl (by decide) rfl H (news := [.int .i64 mv]) rfl rfl rfl (by simp [Value.oneCell']) (by omega) (by omega) ?_; clear H cr; intro v' w' H; rw [hsn.out] at H; obtain ⟨a10, c10, rfl, -⟩ := H.rd.shape)
          go_roundw
          case rel => exact ⟨i + 1, by go_num, by omega, H⟩
          case measure => simp [intOf]; omega
        · obtain rfl : i = 19 := by omega
          have hiI : ¬ (((19 : Nat) : Int) < 19) := by omega
          rw [List.take_of_length_le (by rw [hMO.out]; exact Nat.le_refl _)] at H
          obtain ⟨g6, c6, he6, -⟩ := H.at (by rw [nums_length, hMO.out]; omega)
          cases he6
          have kt := fun w1 (h : Own w0 w1 (slc 3 1 (.slice (some ⟨g6, 0, none⟩) 19 c9) 19 (nums MO) :: slc 3 1 (.slice (some ⟨g5, 0, none⟩) 19 c5) 19 (nums RL) :: slc 122 3 (.slice a8 k c8) k (rows rcell RS) :: slc 3 1 (.slice (some ⟨g3, 0, none⟩) nL c3) nL (nums L) :: slc 3 1 (.slice (some ⟨g4, 0, none⟩) nD c4) nD (nums D) :: Wtr g bs :: ps)) => trim_own 4 h hMO.out (by omega) (by omega)
          rw [hSO2.out] at kt
          have KT := Lib.hid kt
          clear kt
          go_wp2_with fail
          refine (KT.out _ H).mono ?_
          rintro e w14 ⟨_, rfl, rfl, H14⟩
          clear H KT
          obtain ⟨nS, hnS⟩ : ∃ n, Hid (SO.length = n) := ⟨_, Lib.hid rfl⟩
          rw [hnS.out] at H14 hS1 hS2 ⊢
          have H : Own w0 w14 (Wtr g bs :: slc 3 1 (.slice (some ⟨g6, 0, none⟩) nS c9) nS (nums SO) :: slc 3 1 (.slice (some ⟨g5, 0, none⟩) 19 c5) 19 (nums RL) :: slc 122 3 (.slice a8 k c8) k (rows rcell RS) :: slc 3 1 (.slice (some ⟨g3, 0, none⟩) nL c3) nL (nums L) :: slc 3 1 (.slice (some ⟨g4, 0, none⟩) nD c4) nD (nums D) :: ps) := H14.front 5 rfl
          clear H14
          go_wp2_with fail
          have k1 := fun w1 h => head_any (w := w1) (w0 := w0) (ps := slc 3 1 (.slice (some ⟨g6, 0, none⟩) nS c9) nS (nums SO) :: slc 3 1 (.slice (some ⟨g5, 0, none⟩) 19 c5) 19 (nums RL) :: slc 122 3 (.slice a8 k c8) k (rows rcell RS) :: slc 3 1 (.slice (some ⟨g3, 0, none⟩) nL c3) nL (nums L) :: slc 3 1 (.slice (some ⟨g4, 0, none⟩) nD c4) nD (nums D) :: ps) (g := g) (bs := bs) last 2 (by omega) h (by omega)
          obtain ⟨W1, hW1⟩ : ∃ W, Hid (bs ++ headB last 2 = W) := ⟨_, Lib.hid rfl⟩
          have hW1l : W1.length = bs.length + 3 := by rw [← hW1.out, List.length_append]; simp [headB, bitsOf_length]
          rw [hW1.out] at k1
          have e1 : (nL : Int) - 256 - 1 = (nL : Int) - 257 := by omega
          have k2 := fun w1 h => put_any (w := w1) (w0 := w0) (ps := slc 3 1 (.slice (some ⟨g6, 0, none⟩) nS c9) nS (nums SO) :: slc 3 1 (.slice (some ⟨g5, 0, none⟩) 19 c5) 19 (nums RL) :: slc 122 3 (.slice a8 k c8) k (rows rcell RS) :: slc 3 1 (.slice (some ⟨g3, 0, none⟩) nL c3) nL (nums L) :: slc 3 1 (.slice (some ⟨g4, 0, none⟩) nD c4) nD (nums D) :: ps) (g := g) (bs := W1) ((nL : Int) - 256 - 1) 5 (by omega) (by omega) h (by omega)
          have k3 := fun w1 h => put_any (w := w1) (w0 := w0) (ps := slc 3 1 (.slice (some ⟨g6, 0, none⟩) nS c9) nS (nums SO) :: slc 3 1 (.slice (some ⟨g5, 0, none⟩) 19 c5) 19 (nums RL) :: slc 122 3 (.slice a8 k c8) k (rows rcell RS) :: slc 3 1 (.slice (some ⟨g3, 0, none⟩) nL c3) nL (nums L) :: slc 3 1 (.slice (some ⟨g4, 0, none⟩) nD c4) nD (nums D) :: ps) (g := g) (bs := W1 ++ bitsOf ((nL : Int) - 257) 5) ((nD : Int) - 1) 5 (by omega) (by omega) h (by rw [List.length_append, bitsOf_length]; omega)
          have k4 := fun w1 h => put_any (w := w1) (w0 := w0) (ps := slc 3 1 (.slice (some ⟨g6, 0, none⟩) nS c9) nS (nums SO) :: slc 3 1 (.slice (some ⟨g5, 0, none⟩) 19 c5) 19 (nums RL) :: slc 122 3 (.slice a8 k c8) k (rows rcell RS) :: slc 3 1 (.slice (some ⟨g3, 0, none⟩) nL c3) nL (nums L) :: slc 3 1 (.slice (some ⟨g4, 0, none⟩) nD c4) nD (nums D) :: ps) (g := g) (bs := W1 ++ bitsOf ((nL : Int) - 257) 5 ++ bitsOf ((nD : Int) - 1) 5) ((nS : Int) - 4) 4 (by omega) (by omega) h (by rw [List.length_append, List.length_append, bitsOf_length, bitsOf_length]; omega)
          rw [show cut 5 = 5 from rfl, e1] at k2
          rw [show cut 5 = 5 from rfl] at k3
          rw [show cut 4 = 4 from rfl] at k4
          obtain ⟨W2, hW2⟩ : ∃ W, Hid (W1 ++ bitsOf ((nL : Int) - 257) 5 ++ bitsOf ((nD : Int) - 1) 5 ++ bitsOf ((nS : Int) - 4) 4 = W) := ⟨_, Lib.hid rfl⟩
          have hW2l : W2.length = bs.length + 17 := by rw [← hW2.out]; simp only [List.length_append, bitsOf_length]; omega
          have hW2b : Hid (W1 ++ sizesB nL nD nS = W2) := Lib.hid (by rw [← hW2.out]; unfold sizesB; simp only [List.append_assoc])
          rw [hW2.out] at k4
          have hw1 : IntKind.i64.wrap ((nL : Int) - 256) = (nL : Int) - 256 := IntWalk.i64_in _ ⟨by omega, by omega⟩
          have hw2 : IntKind.i64.wrap ((nL : Int) - 256 - 1) = (nL : Int) - 257 := by rw [e1]; exact IntWalk.i64_in _ ⟨by omega, by omega⟩
          have hw3 : IntKind.i64.wrap ((nD : Int) - 1) = (nD : Int) - 1 := IntWalk.i64_in _ ⟨by omega, by omega⟩
          have hw4 : IntKind.i64.wrap ((nS : Int) - 4) = (nS : Int) - 4 := IntWalk.i64_in _ ⟨by omega, by omega⟩
          have K1 := Lib.hid k1
          have K2 := Lib.hid k2
          have K3 := Lib.hid k3
          have K4 := Lib.hid k4
          clear k1 k2 k3 k4 e1
          refine (K1.out _ H).mono ?_
          rintro e w15 ⟨_, rfl, H15⟩
          clear H
          go_wp2_with fail
          refine (K2.out _ H15).mono ?_
          rintro e w16 ⟨_, rfl, H⟩
          clear H15
          go_wp2_with fail
          refine (K3.out _ H).mono ?_
          rintro e w17 ⟨_, rfl, H17⟩
          clear H
          go_wp2_with fail
          refine (K4.out _ H17).mono ?_
          rintro e w18 ⟨_, rfl, H⟩
          clear H17 K1 K2 K3 K4 hw1 hw2 hw3 hw4
          go_wp2_with fail
          go_loopw [105] (fun s105 wx => ∃ j : Nat, s105 = .int .i64 j ∧ j ≤ nS ∧ Own w0 wx (Wtr g (W2 ++ lensB (SO.take j)) :: slc 3 1 (.slice (some ⟨g6, 0, none⟩) nS c9) nS (nums SO) :: slc 3 1 (.slice (some ⟨g5, 0, none⟩) 19 c5) 19 (nums RL) :: slc 122 3 (.slice a8 k c8) k (rows rcell RS) :: slc 3 1 (.slice (some ⟨g3, 0, none⟩) nL c3) nL (nums L) :: slc 3 1 (.slice (some ⟨g4, 0, none⟩) nD c4) nD (nums D) :: ps)) (fun s105 _ => nS - (intOf s105).toNat)
          case atStart => exact ⟨0, by go_num, by omega, by simpa [lensB] using H⟩
          case round =>
            clear H
            obtain ⟨j, rfl, hj, H⟩ := hrel
            have hll : (lensB (SO.take j)).length ≤ 3 * 19 := by
              have h1 := flat_le (f := fun n => bitsOf n 3) (b := 3) (SO.take j) (fun x _ => by rw [bitsOf_length]; exact Nat.le_refl _)
              rw [List.length_take] at h1
              unfold lensB
              omega
            by_cases hjl : j < nS
            · have hjI : (j : Int) < (nS : Int) := by omega
              have hjS : j < SO.length := by rw [hnS.out]; exact hjl
              have cs := (H.front 1 rfl).getc (nums_get (getD_get hjS))
              have hx7 := M7.out _ (mem_getD2 hjS)
              have hsn : Hid (W2 ++ lensB (SO.take (j + 1)) = W2 ++ lensB (SO.take j) ++ bitsOf (SO.getD j 0) 3) := Lib.hid (by rw [lensB_succ hjS, List.append_assoc])
              obtain ⟨xv, hxv⟩ : ∃ xv, SO.getD j 0 = xv := ⟨_, rfl⟩
              rw [hxv] at cs hx7 hsn
              have k1 := fun w1 h => put_any (w := w1) (w0 := w0) (ps := slc 3 1 (.slice (some ⟨g6, 0, none⟩) nS c9) nS (nums SO) :: slc 3 1 (.slice (some ⟨g5, 0, none⟩) 19 c5) 19 (nums RL) :: slc 122 3 (.slice a8 k c8) k (rows rcell RS) :: slc 3 1 (.slice (some ⟨g3, 0, none⟩) nL c3) nL (nums L) :: slc 3 1 (.slice (some ⟨g4, 0, none⟩) nD c4) nD (nums D) :: ps) (g := g) (bs := W2 ++ lensB (SO.take j)) xv 3 (by omega) (by omega) h (by rw [List.length_append]; omega)
              rw [show cut 3 = 3 from rfl, ← hsn.out] at k1
              have K1 := Lib.hid k1
              clear k1 hxv hll
              go_wp2_with fail
              refine (K1.out _ H).mono ?_
              rintro e w19 ⟨_, rfl, H19⟩
              clear H cs
              go_wp2_with fail
              go_roundw
              case rel => exact ⟨j + 1, by go_num, by omega, H19⟩
              case measure => simp [intOf]; omega
            · obtain rfl : j = nS := by omega
              have hjI : ¬ (j : Int) < (j : Int) := by omega
              rw [List.take_of_length_le (by rw [hnS.out]; exact Nat.le_refl _)] at H hll
              obtain ⟨W3, hW3⟩ : ∃ W, Hid (W2 ++ lensB SO = W) := ⟨_, Lib.hid rfl⟩
              have hW3l : W3.length ≤ bs.length + 74 := by rw [← hW3.out, List.length_append]; omega
              rw [hW3.out] at H
              have km := fun w1 h => made_any (w := w1) (v := .slice (some ⟨g5, 0, none⟩) 19 c5) (n := 19) (L := RL) h (by omega) MR.out.cerr
              rw [HRLL.out] at km
              have KM := Lib.hid km
              clear km hll
              go_wp2_with fail
              refine (KM.out _ (H.front 2 rfl).rd).mono ?_
              rintro e w20 ⟨_, rfl, u11, rfl, J⟩
              replace H := H.join J
              clear J KM
              obtain ⟨a11, c11, rfl, -⟩ := H.rd.shape
              go_upto_region 29 with (refine wpList_store_agg (vs := [.slice (some ⟨g5, 0, none⟩) 19 c5, .slice a11 19 c11]) rfl _ _ rfl rfl (H.alloc _) rfl (by kernel_rfl) (by simp) (by simp; exact ⟨rfl, rfl⟩) rfl ?_; intro w21 H21)
              clear H
              generalize w20.heap.size = gc at *
              have H : Own w0 w21 (Wtr g W3 :: blk gc (.cells #[.slice (some ⟨g5, 0, none⟩) 19 c5, .slice a11 19 c11] 92) :: slc 3 1 (.slice a11 19 c11) 19 (nums (codesF RL)) :: slc 3 1 (.slice (some ⟨g6, 0, none⟩) j c9) j (nums SO) :: slc 3 1 (.slice (some ⟨g5, 0, none⟩) 19 c5) 19 (nums RL) :: slc 122 3 (.slice a8 k c8) k (rows rcell RS) :: slc 3 1 (.slice (some ⟨g3, 0, none⟩) nL c3) nL (nums L) :: slc 3 1 (.slice (some ⟨g4, 0, none⟩) nD c4) nD (nums D) :: ps) := H21.front 2 rfl
              clear H21
              have hco : CodOk w0 (blk gc (.cells #[.slice (some ⟨g5, 0, none⟩) 19 c5, .slice a11 19 c11] 92) :: slc 3 1 (.slice a11 19 c11) 19 (nums (codesF RL)) :: slc 3 1 (.slice (some ⟨g6, 0, none⟩) j c9) j (nums SO) :: slc 3 1 (.slice (some ⟨g5, 0, none⟩) 19 c5) 19 (nums RL) :: slc 122 3 (.slice a8 k c8) k (rows rcell RS) :: slc 3 1 (.slice (some ⟨g3, 0, none⟩) nL c3) nL (nums L) :: slc 3 1 (.slice (some ⟨g4, 0, none⟩) nD c4) nD (nums D) :: ps) (.slice (some ⟨g5, 0, none⟩) 19 c5) (.slice a11 19 c11) RL := ⟨fun w' h => by rw [HRLL.out]; exact (h.front 3 rfl).rd, fun w' h => by rw [HRLL.out]; exact (h.front 1 rfl).rd, MR.out.all, MR.out.wt, by rw [HRLL.out]; omega⟩
              have HCO := Lib.hid hco
              have hbdR : ∀ m, (runsB RL (RS.take m)).length ≤ 22 * 632 := fun m => by
                have h1 := flat_le (f := runB RL) (b := 22) (RS.take m) (fun r hr => by
                  have h2 := cbits_le MR.out.all r.sym.toNat
                  have h3 := (OKR.out r (List.mem_of_mem_take hr)).n
                  unfold runB
                  rw [List.length_append, bitsOf_length]
                  omega)
                rw [List.length_take] at h1
                unfold runsB
                have := hnR.out
                omega
              have HBR := Lib.hid hbdR
              clear hco hbdR
              go_wp2_with fail
              go_loopw [117] (fun s117 wx => ∃ m : Nat, s117 = .int .i64 m ∧ m ≤ k ∧ Own w0 wx (Wtr g (W3 ++ runsB RL (RS.take m)) :: blk gc (.cells #[.slice (some ⟨g5, 0, none⟩) 19 c5, .slice a11 19 c11] 92) :: slc 3 1 (.slice a11 19 c11) 19 (nums (codesF RL)) :: slc 3 1 (.slice (some ⟨g6, 0, none⟩) j c9) j (nums SO) :: slc 3 1 (.slice (some ⟨g5, 0, none⟩) 19 c5) 19 (nums RL) :: slc 122 3 (.slice a8 k c8) k (rows rcell RS) :: slc 3 1 (.slice (some ⟨g3, 0, none⟩) nL c3) nL (nums L) :: slc 3 1 (.slice (some ⟨g4, 0, none⟩) nD c4) nD (nums D) :: ps)) (fun s117 _ => k - (intOf s117).toNat)
              case atStart => exact ⟨0, by go_num, by omega, by simpa [runsB] using H⟩
              case round =>
                clear H
                obtain ⟨m, rfl, hm, H⟩ := hrel
                have hbl := HBR.out m
                by_cases hmk : m < k
                · have hmI : (m : Int) < (k : Int) := by omega
                  obtain ⟨t, htk⟩ := get_of_lt (l := RS) (k := m) (by rw [hnR.out]; exact hmk)
                  have hok := OKR.out t (List.mem_of_getElem? htk)
                  have hps := runL_pos OKR.out (by rw [hnR.out]; omega) (List.mem_of_getElem? htk)
                  rw [hRL.out] at hps
                  obtain ⟨b, o, _, he2, -⟩ := (H.front 5 rfl).rd.some (by rw [rows_length rcell rcell_length, hnR.out]; omega)
                  cases he2
                  obtain ⟨c0, cc1, cc2⟩ := run_cells (H.front 5 rfl).rd htk
                  have hsn := runB_succ (ls := RL) htk
                  unfold runB at hsn
                  obtain ⟨hsy, hrn1, hrv⟩ := hok
                  obtain ⟨x, y, z⟩ := t
                  simp only at c0 cc1 cc2 hsy hrn1 hrv hps hsn
                  obtain ⟨x, rfl⟩ : ∃ s : Nat, x = s := ⟨x.toNat, by omega⟩
                  obtain ⟨y, rfl⟩ : ∃ s : Nat, y = s := ⟨y.toNat, by omega⟩
                  simp only [Int.toNat_natCast] at hps hsn hrv
                  have hxl := pos_lt hps
                  have hz128 : z < 128 := by
                    have : (2 : Int) ^ y ≤ 2 ^ 7 := pow2_le (by omega)
                    omega
                  have hsn2 : Hid (W3 ++ runsB RL (RS.take (m + 1)) = W3 ++ runsB RL (RS.take m) ++ cbits RL x ++ bitsOf z y) := Lib.hid (by rw [hsn]; simp only [List.append_assoc])
                  obtain ⟨WB, hWB⟩ : ∃ W, Hid (W3 ++ runsB RL (RS.take m) = W) := ⟨_, Lib.hid rfl⟩
                  have hWBl : WB.length ≤ bs.length + 14000 := by rw [← hWB.out, List.length_append]; omega
                  rw [hWB.out] at H hsn2
                  have hcx := cbits_le MR.out.all x
                  have k1 := fun (tb : Nat) w1 h => cput_any (w := w1) (HCO.out.mono (qs := blk tb (.cells #[.int .i64 (x : Int), .int .i64 (y : Int), .int .i64 z] 122) :: blk gc (.cells #[.slice (some ⟨g5, 0, none⟩) 19 c5, .slice a11 19 c11] 92) :: slc 3 1 (.slice a11 19 c11) 19 (nums (codesF RL)) :: slc 3 1 (.slice (some ⟨g6, 0, none⟩) j c9) j (nums SO) :: slc 3 1 (.slice (some ⟨g5, 0, none⟩) 19 c5) 19 (nums RL) :: slc 122 3 (.slice (some ⟨b, o, none⟩) k c8) k (rows rcell RS) :: slc 3 1 (.slice (some ⟨g3, 0, none⟩) nL c3) nL (nums L) :: slc 3 1 (.slice (some ⟨g4, 0, none⟩) nD c4) nD (nums D) :: ps) fun w' h => h.drop) hxl h (bs := WB) (g := g) (by omega)
                  have k2 := fun (tb : Nat) w1 h => put_any (w := w1) (w0 := w0) (ps := blk tb (.cells #[.int .i64 (x : Int), .int .i64 (y : Int), .int .i64 z] 122) :: blk gc (.cells #[.slice (some ⟨g5, 0, none⟩) 19 c5, .slice a11 19 c11] 92) :: slc 3 1 (.slice a11 19 c11) 19 (nums (codesF RL)) :: slc 3 1 (.slice (some ⟨g6, 0, none⟩) j c9) j (nums SO) :: slc 3 1 (.slice (some ⟨g5, 0, none⟩) 19 c5) 19 (nums RL) :: slc 122 3 (.slice (some ⟨b, o, none⟩) k c8) k (rows rcell RS) :: slc 3 1 (.slice (some ⟨g3, 0, none⟩) nL c3) nL (nums L) :: slc 3 1 (.slice (some ⟨g4, 0, none⟩) nD c4) nD (nums D) :: ps) (g := g) (bs := WB ++ cbits RL x) z (y : Int) (by omega) (by omega) h (by rw [List.length_append]; omega)
                  rw [cut_eq (by omega) (by omega), Int.toNat_natCast, ← hsn2.out] at k2
                  have K1 := Lib.hid k1
                  have K2 := Lib.hid k2
                  clear k1 k2 hsn hrv hps hbl htk hcx hxl
                  go_upto_region 32 with (refine wpList_store_agg (vs := [.int .i64 x, .int .i64 y, .int .i64 z]) rfl _ _ rfl rfl (H.alloc _) rfl (by kernel_rfl) (by simp) (by simp; exact ⟨rfl, rfl, rfl⟩) rfl ?_; clear c0 cc1 cc2; intro w22 H22)
                  clear H
                  generalize wr.heap.size = tb at *
                  have H : Own w0 w22 (Wtr g WB :: blk tb (.cells #[.int .i64 (x : Int), .int .i64 (y : Int), .int .i64 z] 122) :: blk gc (.cells #[.slice (some ⟨g5, 0, none⟩) 19 c5, .slice a11 19 c11] 92) :: slc 3 1 (.slice a11 19 c11) 19 (nums (codesF RL)) :: slc 3 1 (.slice (some ⟨g6, 0, none⟩) j c9) j (nums SO) :: slc 3 1 (.slice (some ⟨g5, 0, none⟩) 19 c5) 19 (nums RL) :: slc 122 3 (.slice (some ⟨b, o, none⟩) k c8) k (rows rcell RS) :: slc 3 1 (.slice (some ⟨g3, 0, none⟩) nL c3) nL (nums L) :: slc 3 1 (.slice (some ⟨g4, 0, none⟩) nD c4) nD (nums D) :: ps) := H22.swap
                  clear H22
                  have c0 := (H.front 1 rfl).cells
                  have cg := (H.front 2 rfl).cells
                  go_wp2_with fail
                  refine (K1.out _ _ H).mono ?_
                  rintro e w23 ⟨_, rfl, H23⟩
                  clear H c0 cg
                  have c0 := (H23.front 1 rfl).cells
                  go_wp2_with fail
                  refine (K2.out _ _ H23).mono ?_
                  rintro e w24 ⟨_, rfl, H24⟩
                  clear H23 c0
                  have H := (H24.front 1 rfl).drop
                  clear H24
                  go_wp2_with fail
                  go_roundw
                  case rel => exact ⟨m + 1, by go_num, by omega, H⟩
                  case measure => simp [intOf]; omega
                · obtain rfl : m = k := by omega
                  have hmI : ¬ (m : Int) < (m : Int) := by omega
                  rw [List.take_of_length_le (by rw [hnR.out]; exact Nat.le_refl _)] at H hbl
                  obtain ⟨W4, hW4⟩ : ∃ W, Hid (W3 ++ runsB RL RS = W) := ⟨_, Lib.hid rfl⟩
                  have hW4l : W4.length ≤ bs.length + 14000 := by rw [← hW4.out, List.length_append]; omega
                  rw [hW4.out] at H
                  have kL := fun w1 h => made_any (w := w1) (v := .slice (some ⟨g3, 0, none⟩) nL c3) (n := nL) (L := L) h (by omega) ML.out.cerr
                  have kD := fun w1 h => made_any (w := w1) (v := .slice (some ⟨g4, 0, none⟩) nD c4) (n := nD) (L := D) h (by omega) MD.out.cerr
                  rw [hnL.out] at kL
                  rw [hnD.out] at kD
                  have KL := Lib.hid kL
                  have KD := Lib.hid kD
                  clear kL kD hbl
                  go_wp2_with fail
                  refine (KL.out _ (H.front 6 rfl).rd).mono ?_
                  rintro e w25 ⟨_, rfl, u12, rfl, J⟩
                  replace H := H.join J
                  clear J KL
                  obtain ⟨a12, c12, rfl, -⟩ := H.rd.shape
                  go_wp2_with fail
                  refine (KD.out _ (H.front 8 rfl).rd).mono ?_
                  rintro e w26 ⟨_, rfl, u13, rfl, J⟩
                  replace H := H.join J
                  clear J KD
                  obtain ⟨a13, c13, rfl, -⟩ := H.rd.shape
                  have H : Own w0 w26 (Wtr g W4 :: slc 3 1 (.slice a13 nD c13) nD (nums (codesF D)) :: slc 3 1 (.slice a12 nL c12) nL (nums (codesF L)) :: slc 3 1 (.slice (some ⟨g3, 0, none⟩) nL c3) nL (nums L) :: slc 3 1 (.slice (some ⟨g4, 0, none⟩) nD c4) nD (nums D) :: ps) := (((((((H.front 2 rfl).front 7 rfl).front 7 rfl).front 7 rfl).front 7 rfl).front 7 rfl).drop.drop.drop.drop.drop)
                  have cokL : CodOk w0 (slc 3 1 (.slice a13 nD c13) nD (nums (codesF D)) :: slc 3 1 (.slice a12 nL c12) nL (nums (codesF L)) :: slc 3 1 (.slice (some ⟨g3, 0, none⟩) nL c3) nL (nums L) :: slc 3 1 (.slice (some ⟨g4, 0, none⟩) nD c4) nD (nums D) :: ps) (.slice (some ⟨g3, 0, none⟩) nL c3) (.slice a12 nL c12) L := ⟨fun w' h => by rw [hnL.out]; exact (h.front 2 rfl).rd, fun w' h => by rw [hnL.out]; exact (h.front 1 rfl).rd, ML.out.all, ML.out.wt, by rw [hnL.out]; omega⟩
                  have cokD : CodOk w0 (slc 3 1 (.slice a13 nD c13) nD (nums (codesF D)) :: slc 3 1 (.slice a12 nL c12) nL (nums (codesF L)) :: slc 3 1 (.slice (some ⟨g3, 0, none⟩) nL c3) nL (nums L) :: slc 3 1 (.slice (some ⟨g4, 0, none⟩) nD c4) nD (nums D) :: ps) (.slice (some ⟨g4, 0, none⟩) nD c4) (.slice a13 nD c13) D := ⟨fun w' h => by rw [hnD.out]; exact (h.front 3 rfl).rd, fun w' h => by rw [hnD.out]; exact h.rd, MD.out.all, MD.out.wt, by rw [hnD.out]; omega⟩
                  have kb := body_any cokL cokD (l := l) (tv := .slice ta N tc) (by rw [hN.out]; exact HT.out.mono fun w' h => h.drop.drop.drop.drop) OKS.out (by rw [hnL.out]; omega) H (by rw [hN.out]; omega)
                  have KB := Lib.hid kb
                  have hfin : Hid (bs ++ headB last 2 ++ (sizesB L.length D.length SO.length ++ (lensB SO ++ (runsB RL RS ++ bodyB L D l))) = W4 ++ bodyB L D l) := Lib.hid (by
                    rw [hnL.out, hnD.out, hnS.out, ← hW4.out, ← hW3.out, ← hW2b.out, ← hW1.out]
                    simp only [List.append_assoc])
                  clear kb cokL cokD
                  go_wp2_with fail
                  refine KB.out.mono ?_
                  rintro e w27 ⟨_, rfl, H27⟩
                  go_wp2_with fail
                  go_end0
                  rw [hfin.out]
                  exact ⟨_, rfl, (((((H27.front 4 rfl).front 4 rfl).front 4 rfl).front 4 rfl).drop.drop.drop.drop)⟩
end Go.Proofs.Ytnebacnmbigaaaa
/- Bits: Writer.Align. -/
namespace Go.Proofs.Ytnebacnmbigaaaa
open Go.RowKit

set_option maxHeartbeats 400000 in
theorem align_gen {w0 w : World} {ps : List Piece} {g : Nat} {a : Option Addr} {N cp m : Nat} {xs : List Value} (H : Own w0 w (blk g (.cells #[.slice a N cp, .int .i64 m] 34) :: ps)) (hN1 : N ≤ 35184372088832) (hc1 : N ≤ cp) (hc2 : cp ≤ 9223372036854775807) :
    Calls Try.prog 14 #[.pointer (some ⟨g, 0, none⟩)] w (Ret fun _ w' => Own w0 w' (blk g (.cells #[.slice a N cp, .int .i64 (8 * N : Nat)] 34) :: ps)) := by
  have c0 := H.cells
  go_enter Try.func14, Try.ntmps14
  go_wp2_with (refine wpList_store_int rfl _ _ rfl rfl H rfl (by kernel_rfl) (by simp) ?_; clear H c0; intro w3 H)
  go_end0
  refine ⟨_, rfl, ?_⟩
  simpa using H
theorem align_any {w0 w : World} {ps : List Piece} {g : Nat} {bs : List Bool} (H : Own w0 w (Wtr g bs :: ps)) (hl : bs.length ≤ 35184372088832) :
    Calls Try.prog 14 #[.pointer (some ⟨g, 0, none⟩)] w (Ret fun _ w' => Own w0 w' (Wtr g (aligned bs) :: ps)) := by
  obtain ⟨a, cp, hc1, hc2, H⟩ := H.wtr
  refine (align_gen (xs := []) H (by unfold nbytes; omega) hc1 hc2).mono ?_
  rintro e w3 ⟨v, rfl, H⟩
  refine ⟨_, rfl, H.unwtr ?_ ?_ ?_⟩
  · rw [aligned_length]
  · rw [aligned_length]; unfold nbytes; omega
  · rw [bytesOf_aligned]
end Go.Proofs.Ytnebacnmbigaaaa
/- Bits: Writer.Text. -/
namespace Go.Proofs.Ytnebacnmbigaaaa
open Go.RowKit

set_option maxHeartbeats 400000 in
theorem text_any {w0 w : World} {ps : List Piece} {g : Nat} {bs : List Bool} (s : ByteArray) (H : Own w0 w (Wtr g bs :: ps)) (hl : bs.length + s.size ≤ 35184372088000) :
    Calls Try.prog 15 #[.pointer (some ⟨g, 0, none⟩), .string s] w (Ret fun _ w' => Own w0 w' (Wtr g (aligned bs ++ textBits s) :: ps)) := by
  go_enter Try.func15, Try.ntmps15
  go_wp2_with fail
  refine (align_any H (by omega)).mono ?_
  rintro e w1 ⟨_, rfl, H1⟩
  clear H
  obtain ⟨m, hm⟩ : ∃ m, Hid ((aligned bs).length = m) := ⟨_, rfl⟩
  obtain ⟨N, hN⟩ : ∃ N, Hid (nbytes m = N) := ⟨_, rfl⟩
  have hmN : m = 8 * N ∧ N ≤ nbytes bs.length := by have h1 := hm.out; have h2 := hN.out; rw [aligned_length] at h1; unfold nbytes at *; omega
  obtain ⟨hmN, hN2⟩ := hmN
  have hN3 : N + s.size ≤ 35184372088800 := by unfold nbytes at hN2; omega
  obtain ⟨a, cp, hc1, hc2, H⟩ := H1.wtr
  clear H1
  rw [hm.out] at H hc1
  rw [hN.out] at H hc1
  have c0 := H.cells
  go_wp2_with (first
    | (at_builtin; refine wpList_append_str rfl _ _ rfl Try.underlying32 Try.underlying9 u8Info rfl rfl H.swap rfl (by omega) ?_; clear H c0; intro v' w' H; replace H := H.swap; obtain ⟨a', c', rfl, h1', h2'⟩ := (H.front 1 rfl).rd.shape)
    | (refine wpList_store_slice rfl _ _ rfl rfl H rfl (by kernel_rfl) (by simp) ?_; clear H; intro w2 H))
  refine (align_gen (xs := []) (m := m) (by simpa using H) (by omega) h1' h2').mono ?_
  rintro e w3 ⟨_, rfl, H3⟩
  go_wp2
  go_end0
  have hlen : (aligned bs ++ textBits s).length = 8 * (N + s.size) := by rw [List.length_append, hm.out, textBits_length]; omega
  refine ⟨_, rfl, H3.unwtr ?_ ?_ ?_⟩
  · rw [hlen]
  · rw [hlen]; unfold nbytes; omega
  · rw [bytesOf_append _ _ (by rw [hm.out]; omega), textBits, bytesOf_nums _ (byteNums_bd s), byteCells_nums]
    simp [u8s]
end Go.Proofs.Ytnebacnmbigaaaa
/- flate: the walk of Store. -/
namespace Go.Proofs.Ytnebacnmbigaaaa
open Go.RowKit

theorem xor16 {n : Nat} (h : n ≤ 65535) : bits .xor .i64 (n : Int) 65535 = 65535 - (n : Int) := by
  have h1 : n ^^^ 65535 = 65535 - n := by
    have e1 : (BitVec.ofNat 16 n ^^^ BitVec.allOnes 16).toNat = 65535 - n := by
      rw [BitVec.xor_allOnes, BitVec.toNat_not, BitVec.toNat_ofNat, Nat.mod_eq_of_lt (by omega)]
    rw [BitVec.toNat_xor, BitVec.toNat_ofNat, Nat.mod_eq_of_lt (by omega)] at e1
    exact e1
  have key : IntKind.i64.wrap ((BitVec.ofInt 64 (n : Int) ^^^ BitVec.ofInt 64 ((65535 : Nat) : Int)).toNat : Int) = 65535 - (n : Int) := by
    rw [BitVec.ofInt_natCast, BitVec.ofInt_natCast, BitVec.toNat_xor, BitVec.toNat_ofNat, BitVec.toNat_ofNat, Nat.mod_eq_of_lt (by omega), Nat.mod_eq_of_lt (by omega), h1, IntKind.wrap_i64]
    omega
  exact key
theorem aligned_id {bs : List Bool} (h : bs.length % 8 = 0) : aligned bs = bs := by
  unfold aligned padN
  rw [h]
  simp
theorem aligned_mod (bs : List Bool) : (aligned bs).length % 8 = 0 := by rw [aligned_length]; omega
def strLen : Value → Nat | .string t => t.size | _ => 0
def boolNum : Value → Nat | .bool true => 1 | _ => 0
/-- A chunk of a text as it is. -/
def chunkB (last : Bool) (t : ByteArray) (bs : List Bool) : List Bool := aligned (bs ++ headB last 0) ++ (bitsOf (t.size : Int) 16 ++ (bitsOf (65535 - (t.size : Int)) 16 ++ textBits t))
theorem chunk_len (last : Bool) (t : ByteArray) (bs : List Bool) : (chunkB last t bs).length ≤ bs.length + 8 * t.size + 48 := by
  unfold chunkB
  rw [List.length_append, List.length_append, List.length_append, bitsOf_length, bitsOf_length, textBits_length, aligned_length, List.length_append]
  simp [headB, bitsOf_length, nbytes]
  omega
theorem storeB_more {f : Nat} {t : ByteArray} {bs : List Bool} (h : ¬ t.size ≤ 65535) : storeB (f + 1) t bs = storeB f (t.extract 65535 t.size) (chunkB false (t.extract 0 65535) bs) := by
  rw [storeB, if_neg h]
  unfold chunkB
  rw [show (t.extract 0 65535).size = 65535 by rw [ByteArray.size_extract]; omega]
  rfl
theorem storeB_last {f : Nat} {t : ByteArray} {bs : List Bool} (h : t.size ≤ 65535) : storeB (f + 1) t bs = chunkB true t bs := by
  rw [storeB, if_pos h]; rfl

theorem tl_empty (t : ByteArray) : t.toList.isEmpty = decide (t.size = 0) := by
  rw [str_data]
  cases h : t.data.toList with
  | nil =>
    have : t.data.size = 0 := by rw [← Array.length_toList, h]; rfl
    have : t.size = 0 := this
    rw [this]; rfl
  | cons a l =>
    have : t.data.size = l.length + 1 := by rw [← Array.length_toList, h]; rfl
    have : t.size = l.length + 1 := this
    rw [this]; rfl
set_option maxRecDepth 100000 in
set_option maxHeartbeats 3200000 in
theorem store_any {w : World} (s : ByteArray) (hs : s.size ≤ 1000000) :
    Calls Try.prog 25 #[.string s] w (Ret fun r w' => r = .string (textOf (storeF s)) ∧ Own w w' []) := by
  have H := (Own.start w).newWtr
  obtain ⟨R, hR⟩ : ∃ R, Hid (storeF s = R) := ⟨_, Lib.hid rfl⟩
  rw [hR.out]
  have hR2 : Hid (storeB (s.size + 1) s [] = R) := Lib.hid hR.out
  clear hR
  go_enter Try.func25, Try.ntmps25
  go_wp2_with fail
  generalize w.alloc _ = w1 at *
  generalize w.heap.size = g at *
  go_loopw [0, 4] (fun s0 s4 wx => ∃ (t : ByteArray) (b : Bool) (f : Nat) (B : List Bool), s0 = .string t ∧ s4 = .bool b ∧ t.size ≤ 1000000 ∧ t.size < f + 1 ∧ (Hid (B.length ≤ 10 * (1000000 - t.size) + 48) ∧ (b = true ∨ 0 < t.size) ∧ Hid (storeB (f + 1) t B = R) ∨ b = false ∧ t.size = 0 ∧ Hid (B = R)) ∧ Own w wx [Wtr g B]) (fun s0 s4 _ => 2 * strLen s0 + boolNum s4)
  case atStart => exact ⟨s, true, s.size, [], rfl, rfl, hs, by omega, .inl ⟨Lib.hid (by simp), .inl rfl, hR2⟩, H⟩
  case round =>
    clear H hR2
    obtain ⟨t, b, f, B, rfl, rfl, ht, hf, hc, H⟩ := hrel
    rcases hc with ⟨hBl, hc, hst⟩ | ⟨rfl, ht0, hBR⟩
    · have hte : b = true ∨ t.toList.isEmpty = false := by
        rcases hc with h1 | h1
        · exact .inl h1
        · right; rw [tl_empty, decide_eq_false_iff_not]; omega
      obtain ⟨N, hN⟩ : ∃ N, t.size = N := ⟨_, rfl⟩
      rw [hN] at hf ht hc hBl
      by_cases h16 : N ≤ 65535
      · have hfin := hst.out
        rw [storeB_last (by rw [hN]; exact h16)] at hfin
        have HFIN := Lib.hid hfin
        have hx1 := xor16 h16
        have hex0 : t.extract 0 N = t := by rw [← hN]; exact ByteArray.extract_zero_size
        have ht2s : Hid (ByteArray.empty.size = 0) := Lib.hid rfl
        have hms : Hid (0 < 2 * N + boolNum (.bool b)) := Lib.hid (by rcases hc with h1 | h1
                                                                      · subst h1; simp [boolNum]
                                                                      · omega)
        clear hc hst hfin
        rcases hte with rfl | hte
        case' inr => cases b
        all_goals
          go_upto_region 5 with (fail)
          go_cut [5, 11, 12, 13] (fun s5 _ _ _ wx => wx = wr ∧ s5 = .int .i64 N)
          case first =>
            go_wp2
            all_goals go_meet
            all_goals exact ⟨rfl, val_int (by omega)⟩
          case rest =>
          obtain ⟨rfl, rfl⟩ := hcut
          have k1 := fun w1 (h : Own w w1 [Wtr g B]) => head_any true 0 (by omega) h (by have := hBl.out; omega)
          have k2 := fun w1 (h : Own w w1 [Wtr g (B ++ headB true 0)]) => align_any h (by rw [List.length_append]; simp [headB, bitsOf_length]; have := hBl.out; omega)
          have hal : (aligned (B ++ headB true 0)).length ≤ 11000000 := by rw [aligned_length, List.length_append]; simp [headB, bitsOf_length, nbytes]; have := hBl.out; omega
          have ham := aligned_mod (B ++ headB true 0)
          obtain ⟨A, hA⟩ : ∃ A, Hid (aligned (B ++ headB true 0) = A) := ⟨_, Lib.hid rfl⟩
          rw [hA.out] at k2 hal ham
          have k3 := fun w1 (h : Own w w1 [Wtr g A]) => put_any ((N : Int)) 16 (by omega) (by omega) h (by omega)
          have k4 := fun w1 (h : Own w w1 [Wtr g (A ++ bitsOf ((N : Int)) 16)]) => put_any (65535 - ((N : Int))) 16 (by omega) (by omega) h (by rw [List.length_append, bitsOf_length]; omega)
          rw [show cut 16 = 16 from rfl] at k3 k4
          have hal2 : aligned (A ++ bitsOf ((N : Int)) 16 ++ bitsOf (65535 - ((N : Int))) 16) = A ++ bitsOf ((N : Int)) 16 ++ bitsOf (65535 - ((N : Int))) 16 := aligned_id (by rw [List.length_append, List.length_append, bitsOf_length, bitsOf_length]; omega)
          have k5 := fun w1 (h : Own w w1 [Wtr g (A ++ bitsOf ((N : Int)) 16 ++ bitsOf (65535 - ((N : Int))) 16)]) => text_any (t) h (by rw [List.length_append, List.length_append, bitsOf_length, bitsOf_length]; omega)
          rw [hal2] at k5
          have hch : Hid (A ++ bitsOf ((N : Int)) 16 ++ bitsOf (65535 - ((N : Int))) 16 ++ textBits (t) = chunkB true (t) B) := Lib.hid (by unfold chunkB; rw [hA.out, hN]; simp only [List.append_assoc])
          have K1 := Lib.hid k1
          have K2 := Lib.hid k2
          have K3 := Lib.hid k3
          have K4 := Lib.hid k4
          have K5 := Lib.hid k5
          have hcl := chunk_len true (t) B
          have HCL := Lib.hid hcl
          clear k1 k2 k3 k4 k5 hal ham hal2 hcl
          go_wp2_with fail
          refine (K1.out _ H).mono ?_
          rintro e w3 ⟨_, rfl, H3⟩
          clear H
          go_wp2_with fail
          refine (K2.out _ H3).mono ?_
          rintro e w4 ⟨_, rfl, H⟩
          clear H3
          go_wp2_with fail
          refine (K3.out _ H).mono ?_
          rintro e w5 ⟨_, rfl, H5⟩
          clear H
          go_wp2_with fail
          refine (K4.out _ H5).mono ?_
          rintro e w6 ⟨_, rfl, H⟩
          clear H5
          go_wp2_with fail
          refine (K5.out _ H).mono ?_
          rintro e w7 ⟨_, rfl, H7⟩
          clear H
          rw [hch.out] at H7
          go_wp2_with fail
          go_roundw
          case rel => exact ⟨ByteArray.empty, false, f, _, rfl, rfl, by rw [ht2s.out]; omega, by rw [ht2s.out]; omega, .inr ⟨rfl, ht2s.out, HFIN⟩, H7⟩
          case measure => simp only [strLen, ht2s.out, hN]; exact hms.out
      · have hfin := hst.out
        obtain ⟨f, rfl⟩ : ∃ f', f = f' + 1 := ⟨f - 1, by omega⟩
        obtain ⟨t3, ht3⟩ : ∃ t3, t.extract 0 65535 = t3 := ⟨_, rfl⟩
        obtain ⟨t2, ht2⟩ : ∃ t2, t.extract 65535 N = t2 := ⟨_, rfl⟩
        have ht2s : Hid (t2.size = N - 65535) := Lib.hid (by rw [← ht2, ByteArray.size_extract]; omega)
        have ht3s : t3.size = 65535 := by rw [← ht3, ByteArray.size_extract]; omega
        rw [storeB_more (by rw [hN]; exact h16), hN, ht2, ht3] at hfin
        have HFIN := Lib.hid hfin
        clear hc hst hfin
        have hNI : ((65535 : Int) == (N : Int)) = false := by simp; omega
        have hcI : (65535 : Int) ≤ (N : Int) := by omega
        rcases hte with rfl | hte
        case' inr => cases b
        all_goals
          go_upto_region 5 with (fail)
          go_cut [5, 11, 12, 13] (fun s5 _ _ _ wx => wx = wr ∧ s5 = .int .i64 65535)
          case first =>
            go_wp2
            all_goals go_meet
            all_goals exact ⟨rfl, val_int (by omega)⟩
          case rest =>
          obtain ⟨rfl, rfl⟩ := hcut
          have k1 := fun w1 (h : Own w w1 [Wtr g B]) => head_any false 0 (by omega) h (by have := hBl.out; omega)
          have k2 := fun w1 (h : Own w w1 [Wtr g (B ++ headB false 0)]) => align_any h (by rw [List.length_append]; simp [headB, bitsOf_length]; have := hBl.out; omega)
          have hal : (aligned (B ++ headB false 0)).length ≤ 11000000 := by rw [aligned_length, List.length_append]; simp [headB, bitsOf_length, nbytes]; have := hBl.out; omega
          have ham := aligned_mod (B ++ headB false 0)
          obtain ⟨A, hA⟩ : ∃ A, Hid (aligned (B ++ headB false 0) = A) := ⟨_, Lib.hid rfl⟩
          rw [hA.out] at k2 hal ham
          have k3 := fun w1 (h : Own w w1 [Wtr g A]) => put_any (65535) 16 (by omega) (by omega) h (by omega)
          have k4 := fun w1 (h : Own w w1 [Wtr g (A ++ bitsOf (65535) 16)]) => put_any (65535 - (65535)) 16 (by omega) (by omega) h (by rw [List.length_append, bitsOf_length]; omega)
          rw [show cut 16 = 16 from rfl] at k3 k4
          have hal2 : aligned (A ++ bitsOf (65535) 16 ++ bitsOf (65535 - (65535)) 16) = A ++ bitsOf (65535) 16 ++ bitsOf (65535 - (65535)) 16 := aligned_id (by rw [List.length_append, List.length_append, bitsOf_length, bitsOf_length]; omega)
          have k5 := fun w1 (h : Own w w1 [Wtr g (A ++ bitsOf (65535) 16 ++ bitsOf (65535 - (65535)) 16)]) => text_any (t3) h (by rw [List.length_append, List.length_append, bitsOf_length, bitsOf_length]; omega)
          rw [hal2] at k5
          have hch : Hid (A ++ bitsOf (65535) 16 ++ bitsOf (65535 - (65535)) 16 ++ textBits (t3) = chunkB false (t3) B) := Lib.hid (by unfold chunkB; rw [hA.out, ht3s]; simp only [List.append_assoc]; rfl)
          have K1 := Lib.hid k1
          have K2 := Lib.hid k2
          have K3 := Lib.hid k3
          have K4 := Lib.hid k4
          have K5 := Lib.hid k5
          have hcl := chunk_len false (t3) B
          rw [ht3s] at hcl
          have HCL := Lib.hid hcl
          clear k1 k2 k3 k4 k5 hal ham hal2 hcl
          go_wp2_with fail
          refine (K1.out _ H).mono ?_
          rintro e w3 ⟨_, rfl, H3⟩
          clear H
          go_wp2_with fail
          refine (K2.out _ H3).mono ?_
          rintro e w4 ⟨_, rfl, H⟩
          clear H3
          go_wp2_with fail
          refine (K3.out _ H).mono ?_
          rintro e w5 ⟨_, rfl, H5⟩
          clear H
          go_wp2_with fail
          refine (K4.out _ H5).mono ?_
          rintro e w6 ⟨_, rfl, H⟩
          clear H5
          go_wp2_with fail
          refine (K5.out _ H).mono ?_
          rintro e w7 ⟨_, rfl, H7⟩
          clear H
          rw [hch.out] at H7
          go_wp2_with fail
          go_roundw
          case rel => exact ⟨t2, false, f, _, rfl, rfl, by rw [ht2s.out]; omega, by rw [ht2s.out]; omega, .inl ⟨Lib.hid (by have := HCL.out; have := hBl.out; rw [ht2s.out]; omega), .inr (by rw [ht2s.out]; omega), HFIN⟩, H7⟩
          case measure => simp only [strLen, ht2s.out, hN]; simp [boolNum]; omega
    · have hte : t.toList.isEmpty = true := by rw [tl_empty, ht0]; rfl
      have HT0 := Lib.hid ht0
      clear ht0 hf
      go_wp2_with fail
      refine (bytes_any H).mono ?_
      rintro e w4 ⟨rfl, rfl⟩
      rw [hBR.out]
      go_wp2_with fail
      go_ret
      exact ⟨_, rfl, rfl, H.bare⟩
end Go.Proofs.Ytnebacnmbigaaaa
/- flate: the walks of Block, Rich, Pack. -/
namespace Go.Proofs.Ytnebacnmbigaaaa
open Go.RowKit

theorem blockB_ne {l : List Tok} {kind : Int} {last : Bool} (h : kind ≠ 1) : blockB l kind last = blockB l 2 last := by
  unfold blockB
  rw [if_neg h, if_neg (by omega)]
theorem block_any {w0 w : World} {ps : List Piece} {g : Nat} {bs : List Bool} {tv : Value} {l : List Tok} (kind : Int) (last : Bool) (ht : Reads w0 ps 3 tv l.length (rows tcell l)) (hs : ∀ t ∈ l, TokOk t) (hln : l.length ≤ 1000000) (H : Own w0 w (Wtr g bs :: ps)) (hl : bs.length + 48 * l.length ≤ 35184372000000) :
    Calls Try.prog 23 #[.pointer (some ⟨g, 0, none⟩), tv, .int .i64 kind, .bool last] w (Ret fun _ w' => Own w0 w' (Wtr g (bs ++ blockB l kind last) :: ps)) := by
  by_cases hk : kind = 1
  · subst hk
    exact block1_any last ht hs H (by omega)
  · have hkb : (kind == 1) = false := by simpa using hk
    rw [blockB_ne hk]
    obtain ⟨ta, tc, rfl, ht1, ht2⟩ := (ht w H.drop).shape
    have k1 := rich_any (g := g) (bs := bs) last ht hs hln H hl
    have K1 := Lib.hid k1
    clear k1 ht hs hk
    generalize l.length = N at *
    go_enter Try.func23, Try.ntmps23
    go_wp2_with fail
    refine K1.out.mono ?_
    rintro e w1 ⟨_, rfl, H2⟩
    go_wp2_with fail
    go_end0
    exact ⟨_, rfl, H2⟩
def richF (s : ByteArray) : ByteArray := textOf (blockB (parse s) 2 true)
set_option maxRecDepth 100000 in
theorem richT_any {w : World} (s : ByteArray) (hs : s.size ≤ 1000000) :
    Calls Try.prog 27 #[.string s] w (Ret fun r w' => r = .string (richF s) ∧ Own w w' []) := by
  have H := (Own.start w).newWtr
  obtain ⟨T, hT⟩ : ∃ T, Hid (parse s = T) := ⟨_, rfl⟩
  have hok := parse_ok s
  have hlen := parse_len s
  unfold richF
  rw [hT.out] at hok hlen ⊢
  have HOK := Lib.hid hok
  clear hok
  go_enter Try.func27, Try.ntmps27
  go_wp2_with fail
  generalize w.alloc _ = w1 at *
  generalize w.heap.size = g at *
  refine (lzparse_any H hs).mono ?_
  rintro e w2 ⟨v, rfl, H2⟩
  rw [hT.out] at H2
  clear H
  obtain ⟨a, c, rfl, -⟩ := H2.rd.shape
  have hb := block_any (l := T) 2 true (fun w' h => h.rd) HOK.out (by omega) H2.swap (by simp; omega)
  rw [List.nil_append] at hb
  have HB := Lib.hid hb
  clear hb
  obtain ⟨N, hN⟩ : ∃ N, Hid (T.length = N) := ⟨_, rfl⟩
  rw [hN.out] at HB ⊢
  go_wp2_with fail
  refine HB.out.mono ?_
  rintro e w3 ⟨_, rfl, H3⟩
  clear H2
  go_wp2_with fail
  refine (bytes_any H3).mono ?_
  rintro e w4 ⟨rfl, rfl⟩
  go_wp2_with fail
  go_ret
  exact ⟨_, rfl, rfl, H3.bare⟩
/-- The shorter of two texts. -/
def shorter (a b : ByteArray) : ByteArray := if b.size < a.size then b else a
def packF (s : ByteArray) : ByteArray := shorter (shorter (textOf (storeF s)) (simpleF s)) (richF s)
set_option maxRecDepth 100000 in
set_option maxHeartbeats 1600000 in
theorem pack_any {w : World} (s : ByteArray) (hs : s.size ≤ 1000000) :
    Calls Try.prog 24 #[.string s] w (Ret fun r w' => r = .string (packF s) ∧ Own w w' []) := by
  have H := Own.start w
  obtain ⟨A, hA⟩ : ∃ A, Hid (textOf (storeF s) = A) := ⟨_, Lib.hid rfl⟩
  obtain ⟨B, hB⟩ : ∃ B, Hid (simpleF s = B) := ⟨_, Lib.hid rfl⟩
  obtain ⟨C, hC⟩ : ∃ C, Hid (richF s = C) := ⟨_, Lib.hid rfl⟩
  obtain ⟨R, hR⟩ : ∃ R, Hid (shorter (shorter A B) C = R) := ⟨_, Lib.hid rfl⟩
  have hP : packF s = R := by unfold packF; rw [hA.out, hB.out, hC.out, hR.out]
  rw [hP]
  have k1 := fun w => store_any (w := w) s hs
  have k2 := fun w => simple_any (w := w) s hs
  have k3 := fun w => richT_any (w := w) s hs
  rw [hA.out] at k1
  rw [hB.out] at k2
  rw [hC.out] at k3
  have K1 := Lib.hid k1
  have K2 := Lib.hid k2
  have K3 := Lib.hid k3
  clear k1 k2 k3 hP hA hB hC
  go_enter Try.func24, Try.ntmps24
  go_wp2_with fail
  refine (K1.out _).mono ?_
  rintro e w1 ⟨_, rfl, rfl, J⟩
  replace H := H.join J
  clear J
  go_wp2_with fail
  refine (K2.out _).mono ?_
  rintro e w2 ⟨_, rfl, rfl, J⟩
  replace H := H.join J
  clear J
  go_wp2_with fail
  refine (K3.out _).mono ?_
  rintro e w3 ⟨_, rfl, rfl, J⟩
  replace H := H.join J
  clear J K1 K2 K3
  go_upto_region 3 with (fail)
  have h9 := H.alloc (.cells #[.string B, .string C] 9)
  have H : Own w (w3.alloc (.cells #[.string B, .string C] 9)) (blk w3.heap.size (.cells #[.string B, .string C] 9) :: []) := h9
  clear h9
  generalize w3.alloc _ = w4 at *
  generalize w3.heap.size = g at *
  go_loopw [3, 14] (fun s3 s14 wx => ∃ (k : Nat) (X : ByteArray), s14 = .int .i64 k ∧ s3 = .string X ∧ (k = 0 ∧ Hid (X = A) ∨ k = 1 ∧ Hid (X = shorter A B) ∨ k = 2 ∧ Hid (X = R)) ∧ Own w wx (blk g (.cells #[.string B, .string C] 9) :: [])) (fun _ s14 _ => 2 - (intOf s14).toNat)
  case atStart => exact ⟨0, A, by go_num, rfl, .inl ⟨rfl, Lib.hid rfl⟩, H⟩
  case round =>
    clear H
    obtain ⟨k, X, rfl, rfl, hc, H⟩ := hrel
    rcases hc with ⟨rfl, hX⟩ | ⟨rfl, hX⟩ | ⟨rfl, hX⟩
    · have c0 := H.cells
      have hs1 : Hid (shorter X B = shorter A B) := Lib.hid (by rw [hX.out])
      by_cases hlt : B.size < X.size
      · have hI : (B.size : Int) < (X.size : Int) := by omega
        have hn : Hid (B = shorter A B) := Lib.hid (by rw [← hs1.out]; unfold shorter; rw [if_pos hlt])
        go_wp2_with fail
        go_roundw
        case rel => exact ⟨1, B, by go_num, rfl, .inr (.inl ⟨rfl, hn⟩), H⟩
        case measure => simp [intOf]
      · have hI : ¬ (B.size : Int) < (X.size : Int) := by omega
        have hn : Hid (X = shorter A B) := Lib.hid (by rw [← hs1.out]; unfold shorter; rw [if_neg hlt])
        go_wp2_with fail
        go_roundw
        case rel => exact ⟨1, X, by go_num, rfl, .inr (.inl ⟨rfl, hn⟩), H⟩
        case measure => simp [intOf]
    · have c0 := H.cells
      have hs1 : Hid (shorter X C = R) := Lib.hid (by rw [hX.out, hR.out])
      by_cases hlt : C.size < X.size
      · have hI : (C.size : Int) < (X.size : Int) := by omega
        have hn : Hid (C = R) := Lib.hid (by rw [← hs1.out]; unfold shorter; rw [if_pos hlt])
        go_wp2_with fail
        go_roundw
        case rel => exact ⟨2, C, by go_num, rfl, .inr (.inr ⟨rfl, hn⟩), H⟩
        case measure => simp [intOf]
      · have hI : ¬ (C.size : Int) < (X.size : Int) := by omega
        have hn : Hid (X = R) := Lib.hid (by rw [← hs1.out]; unfold shorter; rw [if_neg hlt])
        go_wp2_with fail
        go_roundw
        case rel => exact ⟨2, X, by go_num, rfl, .inr (.inr ⟨rfl, hn⟩), H⟩
        case measure => simp [intOf]
    · rw [hX.out] at *
      clear hX
      go_wp2_with fail
      go_ret
      exact ⟨_, rfl, rfl, H.bare⟩
end Go.Proofs.Ytnebacnmbigaaaa
/- inflate: what is packed in each way is unpacked; the examples; plainly. No program in sight. -/
namespace Go.Proofs.Ytnebacnmbigaaaa

/-- Bits that are unpacked as these bytes. -/
def Unp (bits : List Bool) (most : Int) (res : List Int) : Prop := ∀ bs r, At bs 0 (bits ++ r) → Steps bs most Inf.init ⟨bits.length, res, none, true⟩
theorem unp_block (s : ByteArray) (kind : Int) (h : s.size ≤ 1000000) : Unp (blockB (parse s) kind true) s.size (bnum s s.size) := by
  intro bs r ha
  have hb := block_steps (most := s.size) (parse_ok s) (by have := parse_len s; omega) (by omega) (exp_parse h) (by simp) ha
  simpa [Inf.init] using hb.1
theorem bnum_nums (s : ByteArray) : bnum s s.size = byteNums s := by
  refine List.ext_getElem? fun i => ?_
  rcases Nat.lt_or_ge i s.size with h | h
  · rw [bnum_get h]
    unfold byteNums byt
    rw [List.getElem?_map, Array.getElem?_toList, Array.getElem?_eq_getElem (show i < s.data.size from h)]
    simp only [Array.getD, Option.map_some]
    rw [dif_pos (show i < s.data.size from h)]
    rfl
  · rw [List.getElem?_eq_none (by rw [bnum_length]; exact h), List.getElem?_eq_none (by rw [byteNums_length]; exact h)]
theorem unp_store (s : ByteArray) (h : s.size ≤ 65535) : Unp (storeF s) s.size (byteNums s) := by
  intro bs r ha
  have e : storeF s = storedB true s 0 := by
    unfold storeF
    rw [storeB, if_pos h]
    unfold storedB aligned
    simp [headB, bitsOf_length]
  rw [e] at ha ⊢
  have hb := (stored_steps (most := s.size) (out := []) h (by simp) ha).1
  simpa [Inf.init] using hb
theorem blockB_size {l : List Tok} (hl : ∀ t ∈ l, TokOk t) (hn : l.length ≤ 1000000) (kind : Int) (last : Bool) : (blockB l kind last).length ≤ 48 * l.length + 15000 := by
  by_cases hk : kind = 1
  · subst hk
    have := blockB_le hl last
    omega
  · unfold blockB
    rw [if_neg hk]
    unfold richB sizesB
    have h1 := bodyB_le (richL_made hl hn).all (richD_made hl hn).all hl
    have hok := richR_ok hl hn
    have hrl := richR_len hl hn
    have m7 := runL_made hok (by omega)
    have h2 := flat_le (f := runB (runL (richR l))) (b := 22) (richR l) (fun r hr => by
      have h3 := cbits_le m7.all r.sym.toNat
      have h4 := (hok r hr).n
      unfold runB
      rw [List.length_append, bitsOf_length]
      omega)
    have h5 : (sortedF (runL (richR l))).length ≤ 19 := by
      unfold sortedF
      rw [trimF_len]
      have := trimK_le' (ordF.map fun s => (runL (richR l)).getD s 0) 4 (ordF.map fun s => (runL (richR l)).getD s 0).length
      rw [List.length_map] at this ⊢
      have h6 : ordF.length = 19 := rfl
      omega
    have h7 := flat_le (f := fun n => bitsOf n 3) (b := 3) (sortedF (runL (richR l))) (fun r _ => by rw [bitsOf_length]; exact Nat.le_refl _)
    unfold lensB runsB
    simp only [headB, List.length_append, List.length_cons, bitsOf_length]
    omega
/-- A text that is packed in one of the four ways. -/
def Packed (s p : ByteArray) : Prop := ∃ bits, p = textOf bits ∧ Unp bits s.size (byteNums s) ∧ bits.length ≤ 48 * s.size + 20000
theorem packed_store {s : ByteArray} (h : s.size ≤ 65535) : Packed s (textOf (storeF s)) := ⟨_, rfl, unp_store s h, by
  unfold storeF
  rw [storeB, if_pos h]
  simp only [List.length_append, bitsOf_length, textBits_length]
  unfold aligned
  simp [headB, bitsOf_length, padN]
  omega⟩
theorem packed_simple {s : ByteArray} (h : s.size ≤ 65535) : Packed s (simpleF s) := ⟨_, rfl, by rw [← bnum_nums]; exact unp_block s 1 (by omega), by have := blockB_size (parse_ok s) (by have := parse_len s; omega) 1 true; have := parse_len s; omega⟩
theorem packed_rich {s : ByteArray} (h : s.size ≤ 65535) : Packed s (richF s) := ⟨_, rfl, by rw [← bnum_nums]; exact unp_block s 2 (by omega), by have := blockB_size (parse_ok s) (by have := parse_len s; omega) 2 true; have := parse_len s; omega⟩
theorem packed_shorter {s a b : ByteArray} (ha : Packed s a) (hb : Packed s b) : Packed s (shorter a b) := by
  unfold shorter
  split
  · exact hb
  · exact ha
theorem packed_pack {s : ByteArray} (h : s.size ≤ 65535) : Packed s (packF s) := by
  unfold packF
  exact packed_shorter (packed_shorter (packed_store h) (packed_simple h)) (packed_rich h)
theorem strOf_nums (s : ByteArray) : strOfNums (byteNums s) = s := by rw [← bnum_nums, bnum_all]
theorem packed_size {s p : ByteArray} (hp : Packed s p) : p.size ≤ 6 * s.size + 3000 := by
  obtain ⟨bits, rfl, -, h⟩ := hp
  rw [textOf_size]
  unfold nbytes
  omega
theorem packed_back {s p behind t : ByteArray} {u e : Int} (hp : Packed s p) (h : InfRes (textBits (p ++ behind)) s.size t u e) : t = s ∧ u = p.size ∧ e = 0 := by
  obtain ⟨bits, rfl, hu, -⟩ := hp
  unfold InfRes at h
  rw [infl_text rfl hu] at h
  obtain ⟨h1, h2, h3⟩ := h
  rw [strOf_nums] at h1
  exact ⟨h1, by rw [h2, textOf_size], h3⟩
theorem byteNums_size (s : ByteArray) : (byteNums s).length = s.size := byteNums_length s
theorem packed_limit {s p t : ByteArray} {most u e : Int} (hp : Packed s p) (h0 : 0 ≤ most) (h1 : most < s.size) (h : InfRes (textBits p) most t u e) : t = ByteArray.empty ∧ u = 0 ∧ e = 12 := by
  obtain ⟨bits, rfl, hu, -⟩ := hp
  unfold InfRes at h
  rw [infl_lim rfl h0 (by rw [byteNums_size]; exact h1) hu] at h
  exact h
theorem packed_cut {s p t : ByteArray} {k : Nat} {u e : Int} (hp : Packed s p) (hk : k < p.size) (h : InfRes (textBits (p.extract 0 k)) s.size t u e) : t = ByteArray.empty ∧ u = 0 ∧ e = 2 := by
  obtain ⟨bits, rfl, hu, -⟩ := hp
  unfold InfRes at h
  rw [infl_cut rfl hk hu] at h
  exact h

/-! ### the examples -/
def finB : Fin' → List Int → Nat → Bool
  | .ok o n, o', n' => decide (o = o') && decide (n = n')
  | _, _, _ => false
def finE : Fin' → Int → Bool
  | .err e, e' => decide (e = e')
  | _, _ => false
theorem finB_eq {f : Fin'} {o : List Int} {n : Nat} (h : finB f o n = true) : f = .ok o n := by
  cases f <;> simp [finB] at h
  obtain ⟨rfl, rfl⟩ := h; rfl
theorem finE_eq {f : Fin'} {e : Int} (h : finE f e = true) : f = .err e := by
  cases f <;> simp [finE] at h
  subst h; rfl
set_option maxRecDepth 100000 in
theorem ex_a : inflF (textBits ⟨#[0x4b, 4, 0]⟩) 9 = .ok [97] 18 := finB_eq (by decide +kernel)
set_option maxRecDepth 100000 in
theorem ex_b : inflF (textBits ⟨#[0x4b, 4]⟩) 9 = .err 2 := finE_eq (by decide +kernel)
set_option maxRecDepth 100000 in
theorem ex_c : inflF (textBits ⟨#[0x4b, 4, 0]⟩) 0 = .err 12 := finE_eq (by decide +kernel)
set_option maxRecDepth 100000 in
theorem exr_a {t : ByteArray} {u e : Int} (h : InfRes (textBits ⟨#[0x4b, 4, 0]⟩) 9 t u e) : t = ⟨#[97]⟩ ∧ u = 3 ∧ e = 0 := by
  unfold InfRes at h
  rw [ex_a] at h
  exact h
set_option maxRecDepth 100000 in
theorem exr_b {t : ByteArray} {u e : Int} (h : InfRes (textBits ⟨#[0x4b, 4]⟩) 9 t u e) : e = 2 := by
  unfold InfRes at h
  rw [ex_b] at h
  exact h.2.2
set_option maxRecDepth 100000 in
theorem exr_c {t : ByteArray} {u e : Int} (h : InfRes (textBits ⟨#[0x4b, 4, 0]⟩) 0 t u e) : e = 12 := by
  unfold InfRes at h
  rw [ex_c] at h
  exact h.2.2
end Go.Proofs.Ytnebacnmbigaaaa
/- inflate: the walk of tokens. -/
namespace Go.Proofs.Ytnebacnmbigaaaa
open Go.RowKit

theorem ite_left {p q : Prop} [Decidable p] [Decidable q] {a b : Int} (h : p) : (if q then a else b) = if p ∧ q then a else b := by simp [h]
def TokPost (w0 : World) (ps : List Piece) (g rg : Nat) (s : ByteArray) (most : Int) (last : Bool) (st0 : Inf) (w' : World) : Prop :=
  ∃ out' n' e', (out'.length : Int) ≤ most ∧ n' ≤ 8 * s.size ∧ TokEnd (textBits s) most last st0 out' n' e' ∧ Own w0 w' (Inr g rg s n' out' most e' :: ps)
def tmeas (m : Nat) (u e : Value) : Nat := if intOf e = 0 then m + 1 - sliceLen u else 0
theorem Own.inr_o {w0 w : World} {ps : List Piece} {g rg n : Nat} {s : ByteArray} {out : List Int} {most e : Int} (H : Own w0 w (Inr g rg s n out most e :: ps)) : sliceLen ((w.cell? ⟨g, 1, none⟩).getD undef) = out.length := by
  obtain ⟨a, c, _, _, H⟩ := H.inr
  rw [H.cells]; rfl
theorem tmeas_own {w0 w : World} {ps : List Piece} {m g rg n : Nat} {s : ByteArray} {out : List Int} {most e : Int} (H : Own w0 w (Inr g rg s n out most e :: ps)) : tmeas m ((w.cell? ⟨g, 1, none⟩).getD undef) ((w.cell? ⟨g, 3, none⟩).getD undef) = if e = 0 then m + 1 - out.length else 0 := by
  unfold tmeas
  rw [H.inr_o, H.inr_e]
  rfl
set_option maxRecDepth 100000 in
set_option maxHeartbeats 1600000 in
theorem intokens_bad {w0 w : World} {ps : List Piece} {g rg n : Nat} {s : ByteArray} {out : List Int} {most e : Int} (ao bo : Option Addr) (he : e ≠ 0) (H : Own w0 w (Inr g rg s n out most e :: ps)) :
    Calls Try.prog 31 #[.pointer (some ⟨g, 0, none⟩), .pointer ao, .pointer bo] w (Ret fun _ w' => Own w0 w' (Inr g rg s n out most e :: ps)) := by
  have ce := H.inr_e
  have heb : (e == 0) = false := by simp [he]
  clear he
  go_enter Try.func31, Try.ntmps31
  go_wp2_with fail
  refine wp_loop_rounds 1 ?_
  rw [rounds_succ]
  go_wp2
  go_end0
  exact ⟨_, rfl, H⟩
set_option maxRecDepth 100000 in
set_option maxHeartbeats 3200000 in
theorem intokens_any {w0 w : World} {ps : List Piece} {g rg tl td n : Nat} {s : ByteArray} {L D out : List Int} {most : Int} (last : Bool) (hL : TabOk L) (hD : TabOk D) (hm : 0 ≤ most ∧ most ≤ 1000000) (ho : (out.length : Int) ≤ most) (hs : s.size ≤ 1000000) (hn : n ≤ 8 * s.size) (H : Own w0 w (Inr g rg s n out most 0 :: Tbl tl L :: Tbl td D :: ps)) :
    Calls Try.prog 31 #[.pointer (some ⟨g, 0, none⟩), .pointer (some ⟨tl, 0, none⟩), .pointer (some ⟨td, 0, none⟩)] w (Ret fun _ w' => TokPost w0 (Tbl tl L :: Tbl td D :: ps) g rg s most last ⟨n, out, some (L, D), last⟩ w') := by
  obtain ⟨B, hB⟩ : ∃ B, Hid (textBits s = B) := ⟨_, rfl⟩
  obtain ⟨st0, hst0⟩ : ∃ st0, Hid ((⟨n, out, some (L, D), last⟩ : Inf) = st0) := ⟨_, rfl⟩
  have hst : Hid (TokSt B most (L, D) last st0 out n 0) := Lib.hid ⟨fun _ => by rw [hst0.out]; exact .refl _, fun h => absurd rfl h⟩
  obtain ⟨hm0, hm1⟩ := hm
  obtain ⟨mN, hmN⟩ : ∃ mN : Nat, most = mN := ⟨most.toNat, by omega⟩
  replace hmN := Lib.hid hmN
  rw [hst0.out]
  go_enter Try.func31, Try.ntmps31
  go_wp2_with fail
  go_loopw [6] (fun _ wx => ∃ (out1 : List Int) (n1 : Nat) (e1 : Int), (out1.length : Int) ≤ most ∧ n1 ≤ 8 * s.size ∧ Hid (TokSt B most (L, D) last st0 out1 n1 e1) ∧ Own w0 wx (Inr g rg s n1 out1 most e1 :: Tbl tl L :: Tbl td D :: ps)) (fun _ wx => tmeas mN ((wx.cell? ⟨g, 1, none⟩).getD undef) ((wx.cell? ⟨g, 3, none⟩).getD undef))
  case atStart => exact ⟨out, n, 0, ho, hn, hst, H⟩
  case round =>
    clear H hst hst0 ho hn
    obtain ⟨out1, n1, e1, ho, hn1, hst, H⟩ := hrel
    clear out n
    obtain ⟨M, hM⟩ : ∃ M, Hid (out1.length = M) := ⟨_, rfl⟩
    have hmz : Hid (tmeas mN ((wr.cell? ⟨g, 1, none⟩).getD undef) ((wr.cell? ⟨g, 3, none⟩).getD undef) = if e1 = 0 then mN + 1 - M else 0) := Lib.hid (by rw [tmeas_own H, hM.out])
    have ce := H.inr_e
    by_cases he : e1 = 0
    case neg =>
      have heb : (e1 == 0) = false := by simp [he]
      have hfin : Hid (TokEnd B most last st0 out1 n1 e1) := Lib.hid ⟨fun h => absurd h he, fun h => hst.out.2 h⟩
      clear he hst hmz
      go_wp2
      go_end0
      exact ⟨_, rfl, out1, n1, e1, ho, hn1, by rw [hB.out]; exact hfin.out, H⟩
    subst he
    replace hmz := Lib.hid (hmz.out.trans (if_pos rfl))
    rw [hM.out] at ho
    have hsy := insym_any (g := g) (t := tl) hL hs hn1 H
    rw [hB.out] at hsy
    have HS := Lib.hid hsy
    clear hsy
    go_wp2_with fail
    refine HS.out.mono ?_
    rintro e0 w1 ⟨_, rfl, v, n2, e2, rfl, hv0, hv1, hn2, -, hg, H1⟩
    have hts := Lib.hid (tok_sym (most := most) (D := D) (out := out1) (hg trivial))
    clear HS H hg ce
    have ce := H1.inr_e
    by_cases he2 : e2 = 0
    case neg =>
      have heb : (e2 != 0) = true := by simp [he2]
      have hfin : Hid (TokEnd B most last st0 out1 n2 e2) := Lib.hid ⟨fun h => absurd h he2, fun h => (tok_round hst.out (hts.out.1 h)).1 h⟩
      clear he2 hst hmz hts
      go_wp2
      refine bodyPost_ret (results_none rfl _ _ _) rfl ?_
      exact ⟨_, rfl, out1, n2, e2, by rw [hM.out]; exact ho, hn2, by rw [hB.out]; exact hfin.out, H1⟩
    subst he2
    by_cases hv : v = 256
    · subst hv
      have hfin : Hid (TokEnd B most last st0 out1 n2 0) := Lib.hid (((tok_round hst.out (hts.out.2.1 rfl rfl)).2 rfl).2 rfl)
      clear hst hmz hts
      go_wp2
      refine bodyPost_ret (results_none rfl _ _ _) rfl ?_
      exact ⟨_, rfl, out1, n2, 0, by rw [hM.out]; exact ho, hn2, by rw [hB.out]; exact hfin.out, H1⟩
    have hvb : (v == 256) = false := by simp [hv]
    by_cases hv2 : v < 256
    · have hrt := Lib.hid (hts.out.2.2.1 rfl hv2)
      clear hts hv
      rw [hM.out] at hrt
      have hu8 : IntKind.u8.wrap v = v := IntWalk.u8_in _ ⟨by omega, by omega⟩
      have HR := Lib.hid (inroom_any 1 (by omega) (by omega) (by rw [hM.out]; omega) H1)
      rw [hM.out] at HR
      go_wp2_with fail
      refine HR.out.mono ?_
      rintro e0 w2 ⟨_, rfl, b, e3, rfl, -, hr1, hr2, H2⟩
      clear HR H1 ce
      by_cases hlt : most - (M : Int) < 1
      · obtain ⟨rfl, rfl⟩ := hr1 trivial hlt
        have hfin := Lib.hid ((tok_round hst.out (hrt.out.1 hlt)).1 (by decide))
        clear hr1 hr2 hrt hst
        go_wp2_with fail
        go_roundw
        case rel => exact ⟨out1, n2, 12, by rw [hM.out]; exact ho, hn2, Lib.hid ⟨fun h => absurd h (by decide), fun _ => hfin.out⟩, H2⟩
        case measure => rw [hmz.out, tmeas_own H2, if_neg (by decide)]; have := hmN.out; omega
      · obtain ⟨rfl, rfl⟩ := hr2 trivial (by omega)
        have hfin := Lib.hid (((tok_round hst.out (hrt.out.2 (by omega))).2 rfl).1 _ rfl)
        clear hr1 hr2 hrt hst
        obtain ⟨a, c, h1, h2, H⟩ := H2.inr
        rw [hM.out] at H
        have c0 := H.cells
        clear H2
        have H3 := H.front 1 rfl
        clear H
        go_wp2_with (first
          | (at_builtin; refine wpList_append_one rfl _ _ rfl Try.underlying32 u8Info rfl (by decide) rfl H3 (news := [.int .u8 v]) rfl rfl rfl (by simp [Value.oneCell']) (by omega) (by omega) ?_; clear H3 c0; intro v' w' H; obtain ⟨a', c', rfl, h1', h2'⟩ := H.rd.shape)
          | (refine wpList_store_slice rfl _ _ rfl rfl (H.front 1 rfl) rfl (by kernel_rfl) (by simp) ?_; clear H; intro w2 H))
        have hlen : M + 1 = (out1 ++ [v]).length := by rw [List.length_append, hM.out]; rfl
        have H4 : Own w0 w2 (Inr g rg s n2 (out1 ++ [v]) most 0 :: Tbl tl L :: Tbl td D :: ps) := Own.uninr (by rw [← bcells_snoc]; exact H) hlen
        clear H
        simp only [Act.put]
        go_roundw
        case rel => exact ⟨out1 ++ [v], n2, 0, by omega, hn2, hfin, H4⟩
        case measure => rw [hmz.out, tmeas_own H4, if_pos rfl, ← hlen]; have := hmN.out; omega
    · have hv3 : 256 < v := by omega
      have hG := Lib.hid (hts.out.2.2.2 rfl hv3)
      obtain ⟨G, hGG⟩ : ∃ G, Hid (tokG B most L D out1 n1 = G) := ⟨_, rfl⟩
      rw [hGG.out] at hG
      clear hts
      obtain ⟨c, rfl⟩ : ∃ c : Nat, v = c := ⟨v.toNat, by omega⟩
      have HT := Lib.hid (inlength_any c (by omega) (by omega) hs hn2 H1)
      rw [hB.out] at HT
      go_wp2_with fail
      refine HT.out.mono ?_
      rintro e0 w2 ⟨_, rfl, len, n3, e3, rfl, hl0, hl1, hn3, -, hl2, hg3, H2⟩
      replace hl2 := Lib.hid hl2
      replace hg3 := Lib.hid (hg3 trivial)
      clear HT H1 ce
      have HS := Lib.hid (insym_any (g := g) (t := td) hD hs hn3 (H2.front 2 rfl).swap)
      rw [hB.out] at HS
      go_wp2_with fail
      refine HS.out.mono ?_
      rintro e0 w3 ⟨_, rfl, k, n4, e4, rfl, hk0, hk1, hn4, he4, hg4, H3⟩
      replace hg4 := Lib.hid hg4
      replace he4 := Lib.hid he4
      obtain ⟨k, rfl⟩ : ∃ j : Nat, k = j := ⟨k.toNat, by omega⟩
      clear HS H2
      have HT := Lib.hid (indist_any k (by omega) hs hn4 H3)
      rw [hB.out] at HT
      go_wp2_with fail
      refine HT.out.mono ?_
      rintro e0 w4 ⟨_, rfl, d, n5, e5, rfl, hd0, hd1, hn5, he5, hd2, hg5, H4⟩
      have hfar := Lib.hid (tok_far hG.out hg3.out (fun h => (he4.out h).1) hg4.out he5 hg5)
      have hl3 : Hid (e5 = 0 → 1 ≤ len) := Lib.hid (fun h5 => by
        by_cases h4 : e4 = 0
        · by_cases h3 : e3 = 0
          · exact hl2.out h3
          · exact absurd ((he4.out h3).1.symm.trans h4) h3
        · exact absurd ((he5 h4).symm.trans h5) h4)
      clear hl2
      replace hd2 := Lib.hid hd2
      clear HT H3 hg3 hg4 he4 he5 hg5 hG
      have H : Own w0 w4 (Inr g rg s n5 out1 most e5 :: Tbl tl L :: Tbl td D :: ps) := (H4.front 2 rfl).swap
      clear H4
      obtain ⟨a, c1, h1, h2, HI⟩ := H.inr
      rw [hM.out] at HI hfar
      have c0 := HI.cells
      go_upto_if 31 with (fail)
      obtain ⟨bx, hbx⟩ : ∃ b, Hid (decide ((M : Int) < d) = b) := ⟨_, rfl⟩
      rw [hbx.out]
      go_cut [] (fun wx => ∃ e6 : Int, Hid (e6 = if (M : Int) < d ∧ e5 = 0 then 2 else e5) ∧ Own w0 wx (Inr g rg s n5 out1 most e6 :: Tbl tl L :: Tbl td D :: ps))
      case first =>
        cases bx
        case true =>
          have hx : Hid ((if e5 = 0 then 2 else e5) = if (M : Int) < d ∧ e5 = 0 then 2 else e5) := Lib.hid (ite_left (by simpa using hbx.out))
          obtain ⟨e6, he6⟩ : ∃ e6, Hid ((if e5 = 0 then 2 else e5) = e6) := ⟨_, rfl⟩
          have HH := Lib.hid (infail_any (g := g) (rg := rg) 2 (by decide) H)
          rw [he6.out] at HH hx
          go_wp2_with fail
          refine HH.out.mono ?_
          rintro e w5 ⟨_, rfl, H5⟩
          clear HH
          go_wp2
          go_meet
          exact ⟨e6, hx, H5⟩
        case false =>
          have hx : Hid (e5 = if (M : Int) < d ∧ e5 = 0 then 2 else e5) := Lib.hid (if_neg (fun h => absurd h.1 (by simpa using hbx.out))).symm
          go_wp2
          go_meet
          exact ⟨e5, hx, H⟩
      case rest =>
      clear H HI c0 h1 h2 hbx
      obtain ⟨e6, he6, H⟩ := hcut
      have HR := Lib.hid (inroom_any len (by omega) (by omega) (by rw [hM.out]; omega) H)
      rw [hM.out] at HR
      go_wp2_with fail
      refine HR.out.mono ?_
      rintro e0 w6 ⟨_, rfl, b, e7, rfl, hr0, hr1, hr2, H6⟩
      have hend : Hid (b = false ∧ (e7 ≠ 0 ∧ Faults B most st0 e7) ∨ b = true ∧ e7 = 0 ∧ e5 = 0 ∧ ¬ (M : Int) < d ∧ ¬ most - (M : Int) < len) := Lib.hid (by
        have h6 := he6.out
        have hf := hfar.out
        by_cases h5 : e5 = 0
        · subst h5
          have hf := hf.2 rfl
          by_cases hd : (M : Int) < d
          · rw [if_pos ⟨hd, rfl⟩] at h6
            subst h6
            obtain ⟨rfl, rfl⟩ := hr0 (by decide)
            exact .inl ⟨rfl, by decide, (tok_round hst.out (by rw [hGG.out]; exact hf.1 hd)).1 (by decide)⟩
          · rw [if_neg (fun h => hd h.1)] at h6
            subst h6
            by_cases hl : most - (M : Int) < len
            · obtain ⟨rfl, rfl⟩ := hr1 rfl hl
              exact .inl ⟨rfl, by decide, (tok_round hst.out (by rw [hGG.out]; exact (hf.2 (by omega)).1 hl)).1 (by decide)⟩
            · obtain ⟨rfl, rfl⟩ := hr2 rfl (by omega)
              exact .inr ⟨rfl, rfl, rfl, hd, hl⟩
        · rw [if_neg (fun h => h5 h.2)] at h6
          subst h6
          obtain ⟨rfl, rfl⟩ := hr0 h5
          exact .inl ⟨rfl, h5, (tok_round hst.out (by rw [hGG.out]; exact hf.1 h5)).1 h5⟩)
      clear HR H hr0 hr1 hr2 he6
      rcases hend.out with ⟨rfl, hb1, hb2⟩ | ⟨rfl, rfl, rfl, hb1, hb2⟩
      · have hfin : Hid (TokEnd B most last st0 out1 n5 e7) := Lib.hid ⟨fun h => absurd h hb1, fun _ => hb2⟩
        clear hend hfar hst hmz hb1 hb2 hd2 hGG
        go_wp2
        refine bodyPost_ret (results_none rfl _ _ _) rfl ?_
        exact ⟨_, rfl, out1, n5, e7, by rw [hM.out]; exact ho, hn5, by rw [hB.out]; exact hfin.out, H6⟩
      · have hd3 := hd2.out rfl
        have hl4 := hl3.out rfl
        clear hl3
        have hfin := Lib.hid (((tok_round hst.out (by rw [hGG.out]; exact ((hfar.out.2 rfl).2 (by omega)).2 (by omega))).2 rfl).1 _ rfl)
        clear hend hfar hst hd2 hGG
        obtain ⟨dd, rfl⟩ : ∃ j : Nat, d = j := ⟨d.toNat, by omega⟩
        obtain ⟨nn, rfl⟩ : ∃ j : Nat, len = j := ⟨len.toNat, by omega⟩
        simp only [Int.toNat_natCast] at hfin
        have hd1 : 1 ≤ dd := by omega
        have hn1' : 1 ≤ nn := by omega
        have hd2 : dd ≤ M := by omega
        have hnM : (M : Int) + nn ≤ most := by omega
        clear hb1 hb2 hd0 hd3 hl0 hl4 hv0 hv1 hvb hv3 hk0 hk1
        go_wp2_with fail
        go_loopw [39] (fun s39 wx => ∃ j : Nat, s39 = .int .i64 j ∧ j ≤ nn ∧ Own w0 wx (Inr g rg s n5 (copyN dd out1 j) most 0 :: Tbl tl L :: Tbl td D :: ps)) (fun s39 _ => nn - (intOf s39).toNat)
        case atStart => exact ⟨0, by go_num, by omega, H6⟩
        case round =>
          clear H6
          obtain ⟨j, rfl, hj, H⟩ := hrel
          by_cases hjm : j < nn
          case neg =>
            obtain rfl : j = nn := by omega
            have hjI : ¬ (j : Int) < (j : Int) := by omega
            have hcl : (copyN dd out1 j).length = M + j := by rw [copyN_length, hM.out]
            go_wp2_with fail
            go_roundw
            case rel => exact ⟨copyN dd out1 j, n5, 0, by rw [hcl]; omega, hn5, hfin, H⟩
            case measure => rw [hmz.out, tmeas_own H, if_pos rfl, hcl]; have := hmN.out; omega
          have hjI : (j : Int) < (nn : Int) := by omega
          obtain ⟨N, hN⟩ : ∃ N, Hid (M + j = N) := ⟨_, rfl⟩
          have hcl : (copyN dd out1 j).length = N := by rw [copyN_length, hM.out, hN.out]
          have hNb : N + 1 ≤ 1000000 := by have := hN.out; omega
          obtain ⟨q, hq⟩ : ∃ q, Hid (N - dd = q) := ⟨_, rfl⟩
          have hdN : dd ≤ N := by have := hN.out; omega
          have hqI : (N : Int) - (dd : Int) = (q : Int) := by have := hq.out; omega
          have hqN : q < N := by have := hq.out; omega
          have hqNI : (q : Int) < (N : Int) := by omega
          obtain ⟨x, hx⟩ : ∃ x, (copyN dd out1 j)[q]? = some x := ⟨_, List.getElem?_eq_getElem (by omega)⟩
          have hnx : Hid (copyN dd out1 (j + 1) = copyN dd out1 j ++ [x]) := Lib.hid (by
            rw [copyN, hcl, hq.out, List.getD_eq_getElem?_getD, hx]; rfl)
          have HX := Lib.hid (bcells_get hx)
          clear hx
          obtain ⟨OJ, hOJ⟩ : ∃ OJ, Hid (copyN dd out1 j = OJ) := ⟨_, rfl⟩
          rw [hOJ.out] at H HX hnx hcl
          obtain ⟨a, c1, h1, h2, HI⟩ := H.inr
          rw [hcl] at HI h1
          obtain ⟨gb, cc, hgb, hg1, hg2, -⟩ := (HI.front 1 rfl).at (by rw [bcells_length, hcl]; omega)
          cases hgb
          replace hcl := Lib.hid hcl
          have hw : IntKind.i64.wrap (q : Int) = q := IntWalk.i64_in _ ⟨by omega, by omega⟩
          have hcell : ∀ (w1 : World) (qs : List Piece), Own w0 w1 (blk g (.cells #[.pointer (some ⟨rg, 0, none⟩), .slice (some ⟨gb, 0, none⟩) N c1, .int .i64 most, .int .i64 0] 59) :: slc 5 1 (.slice (some ⟨gb, 0, none⟩) N c1) N (bcells OJ) :: qs) → w1.cell? ⟨gb, q, none⟩ = some (.int .u8 x) := fun w1 qs h => by
            have h3 := (h.front 1 rfl).rd.cell HX.out
            rwa [Nat.zero_add] at h3
          replace hcell := Lib.hid hcell
          clear H
          go_upto_region 9 with (fail)
          refine wp_region_pres (fun σ w1 => Own w0 w1 (newR (.cells #[.int .u8 x] 5) 1 (σ 18) ++ (blk g (.cells #[.pointer (some ⟨rg, 0, none⟩), .slice (some ⟨gb, 0, none⟩) N c1, .int .i64 most, .int .i64 0] 59) :: slc 5 1 (.slice (some ⟨gb, 0, none⟩) N c1) N (bcells OJ) :: Rdr rg s n5 :: Tbl tl L :: Tbl td D :: ps))) 19 [18] [0] (by kernel_rfl) (by kernel_rfl) (by kernel_rfl) (by kernel_rfl) (fun _ _ d _ _ h => by cases d <;> exact h) ⟨_, _, rfl, fun w => (by first | rfl | (go_simp; rfl)), rfl⟩ HI.drew ?_
          simp only [List.take_succ_cons, List.take_zero, List.drop_succ_cons, List.drop_zero]
          repeat
            first
            | (refine calm_value (v := ?_) (by decide) rfl (fun σ w1 hS => ?_) ?_
               rotate_left
               · have c0 := hS.skip.cells; have c3 := hcell.out _ _ hS.skip
                 first | (go_simp; rfl) | rfl
               simp only [Act.put, List.setIfInBounds_toArray, List.set_cons_zero, List.set_cons_succ])
            | (refine calm_skip (by decide) rfl ?_
               simp only [Act.put, List.setIfInBounds_toArray, List.set_cons_zero, List.set_cons_succ])
          refine calm_row (by decide) (fun w1 => (by go_simp)) ?_
          refine calm_nil ?_
          intro σ wd hσ HD
          obtain ⟨vn, hvn⟩ := Option.isSome_iff_exists.1 (hσ 18 (by decide))
          rw [hvn] at HD
          obtain ⟨g2, rfl, HN⟩ := HD.newr
          clear HD HI hcell
          simp only [putNew, List.foldl_cons, List.foldl_nil, hvn]
          simp only [Act.put, List.setIfInBounds_toArray, List.set_cons_zero, List.set_cons_succ, List.getElem?_cons_succ, List.getElem?_cons_zero, Option.bind_some, Option.getD_some]
          have hrow := (HN.slc_mk (xs := [.int .u8 x]) (n := 1) (size := 1) rfl (Nat.le_refl _) (by decide) rfl rfl).rd
          have H3 := HN.drop.front 1 rfl
          clear HN hσ hvn
          go_wp2_with (first
            | (at_builtin; refine wpList_append_sep rfl _ _ rfl Try.underlying32 u8Info rfl (by decide) rfl H3 hrow (by simp [Value.oneCell']) (by omega) (by omega) ?_; clear H3 hrow; intro v' w' H; obtain ⟨a', c', rfl, h1', h2'⟩ := H.rd.shape)
            | (refine wpList_store_slice rfl _ _ rfl rfl (H.front 1 rfl) rfl (by kernel_rfl) (by simp) ?_; clear H; intro w2 H))
          have hlen : N + 1 = (OJ ++ [x]).length := by rw [List.length_append, hcl.out]; rfl
          have H4 : Own w0 w2 (Inr g rg s n5 (copyN dd out1 (j + 1)) most 0 :: Tbl tl L :: Tbl td D :: ps) := by
            rw [hnx.out]
            exact Own.uninr (by rw [← bcells_snoc]; exact H) hlen
          clear H
          go_roundw
          case rel => exact ⟨j + 1, by go_num, by omega, H4⟩
          case measure => simp [intOf]; omega
end Go.Proofs.Ytnebacnmbigaaaa
/- inflate: the walks of table, lengths behind a fault. -/
namespace Go.Proofs.Ytnebacnmbigaaaa
open Go.RowKit

/-- A table, if lengths have one. -/
def TblO (v : Value) (l : List Int) : Piece := if terrF l = 0 then ex fun t => star (fact (v = .pointer (some ⟨t, 0, none⟩))) (Tbl t l) else fact (v = .pointer none)
def eT (l : List Int) (e : Int) : Int := if terrF l = 0 then e else if e = 0 then 2 else e
theorem Own.tblo {w0 w : World} {ps : List Piece} {v : Value} {l : List Int} (H : Own w0 w (TblO v l :: ps)) (h : terrF l = 0) : ∃ t, v = .pointer (some ⟨t, 0, none⟩) ∧ Own w0 w (Tbl t l :: ps) := by
  unfold TblO at H
  rw [if_pos h] at H
  obtain ⟨t, H⟩ := H.ex
  obtain ⟨hv, H⟩ := H.star.fact
  exact ⟨t, hv, H⟩
set_option maxRecDepth 100000 in
set_option maxHeartbeats 1600000 in
theorem intable_g {w0 w : World} {ps : List Piece} {g rg n m : Nat} {l : List Int} {v : Value} {s : ByteArray} {out : List Int} {most e : Int} (hr : Rd w 1 v m (nums l)) (hm : m ≤ 1000000) (H : Own w0 w (Inr g rg s n out most e :: ps)) :
    Calls Try.prog 57 #[.pointer (some ⟨g, 0, none⟩), v] w (Ret fun r w' => Own w0 w' (TblO r l :: Inr g rg s n out most (eT l e) :: ps)) := by
  have HN := Lib.hid (hnew_any hr hm)
  obtain ⟨x, hx⟩ : ∃ x, Hid (terrF l = x) := ⟨_, rfl⟩
  rw [hx.out] at HN
  obtain ⟨a, c, rfl, _, _⟩ := hr.shape
  clear hr
  obtain ⟨E, hE⟩ : ∃ E, Hid (eT l e = E) := ⟨_, rfl⟩
  rw [hE.out]
  go_enter Try.func57, Try.ntmps57
  go_wp2_with fail
  refine HN.out.mono ?_
  rintro e1 w1 ⟨_, rfl, pv, rfl, hn1, hn2⟩
  replace hn1 := Lib.hid hn1
  replace hn2 := Lib.hid hn2
  by_cases h0 : x = 0
  · subst h0
    have hEE : Hid (e = E) := Lib.hid (by rw [← hE.out]; unfold eT; rw [if_pos hx.out])
    obtain ⟨t, rfl, H1⟩ := hn2.out rfl
    have H2 := H.join H1
    have H3 : Own w0 w1 (TblO (.pointer (some ⟨t, 0, none⟩)) l :: Inr g rg s n out most e :: ps) := by
      unfold TblO
      rw [if_pos hx.out]
      exact Own.unex (f := fun t' => Go.Proofs.Ytnebacnmbigaaaa.star (Go.Proofs.Ytnebacnmbigaaaa.fact (Value.pointer (some ⟨t, 0, none⟩) = .pointer (some ⟨t', 0, none⟩))) (Tbl t' l)) t ((H2.unfact rfl).unstar)
    clear H1 H H2 HN
    go_wp2
    go_ret
    exact ⟨_, rfl, by rw [← hEE.out]; exact H3⟩
  · obtain ⟨rfl, H1⟩ := hn1.out h0
    have hEE : Hid ((if e = 0 then 2 else e) = E) := Lib.hid (by rw [← hE.out]; exact (if_neg (by rw [hx.out]; exact h0)).symm)
    have H2 := H.join H1
    have HH := Lib.hid (infail_any (g := g) (rg := rg) 2 (by decide) H2)
    rw [hEE.out] at HH
    have hb : (x == 0) = false := by simp [h0]
    clear H1 H HN hn1 hn2
    go_wp2_with fail
    refine HH.out.mono ?_
    rintro e1 w2 ⟨_, rfl, H3⟩
    have H4 : Own w0 w2 (TblO (.pointer none) l :: Inr g rg s n out most E :: ps) := by
      unfold TblO
      rw [if_neg (by rw [hx.out]; exact h0)]
      exact H3.unfact rfl
    go_wp2
    go_ret
    exact ⟨_, rfl, H4⟩
set_option maxRecDepth 100000 in
set_option maxHeartbeats 1600000 in
theorem inlengths_bad {w0 w : World} {ps : List Piece} {g rg n : Nat} {s : ByteArray} {out : List Int} {most e : Int} (N : Nat) (ao : Option Addr) (he : e ≠ 0) (hN : 1 ≤ N) (H : Own w0 w (Inr g rg s n out most e :: ps)) :
    Calls Try.prog 58 #[.pointer (some ⟨g, 0, none⟩), .pointer ao, .int .i64 N] w (Ret fun r w' => r = .slice none 0 0 ∧ Own w0 w' (Inr g rg s n out most e :: ps)) := by
  have hmf : ∀ (fn : Fn) (first cap : Array Value) (w : World), (Instr.makeFunc fn first cap).run Try.prog w = .ok (.func fn first cap) w := fun _ _ _ _ => rfl
  go_enter Try.func58, Try.ntmps58
  go_upto_region 2 with (fail)
  replace H := H.alloc3 (.cells #[.pointer (some ⟨g, 0, none⟩)] 55) (.cells #[.int .i64 N] 3) (.cells #[.slice none 0 0] 31)
  generalize ((w.alloc (.cells #[.pointer (some ⟨g, 0, none⟩)] 55)).alloc (.cells #[.int .i64 N] 3)).alloc (.cells #[.slice none 0 0] 31) = wa at *
  obtain ⟨bL, hbL⟩ : ∃ g, w.heap.size + 1 + 1 = g := ⟨_, rfl⟩
  rw [hbL] at H ⊢
  obtain ⟨bN, hbN⟩ : ∃ g, w.heap.size + 1 = g := ⟨_, rfl⟩
  rw [hbN] at H ⊢
  generalize w.heap.size = bR at *
  clear hbL hbN
  have c0 := H.cells
  have c1 := (H.front 1 rfl).cells
  have c2 := (H.front 2 rfl).cells
  have ce := (H.front 3 rfl).inr_e
  have heb : (e == 0) = false := by simp [he]
  have hN1 : (0 : Int) < N := by omega
  have hN0 : 0 < N := by omega
  go_wp2_with fail
  refine wp_loop_rounds 1 ?_
  rw [rounds_succ]
  go_wp2
  go_ret
  exact ⟨_, rfl, rfl, H.drop.drop.drop⟩
end Go.Proofs.Ytnebacnmbigaaaa
