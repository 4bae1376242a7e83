/-
  lz: the map's keys, three bytes.
-/
import Derived.Test.YteblnmealnmipaaMap
import Derived.Test.YteblnmealnmipaaRec
import Derived.ProofKit
import Derived.DeepKeys4
import Derived.Test.YteblnmealnmipaaRows
namespace Go.Proofs.Yteblnmealnmipaa
open Go.RowKit Go.Maps Go.ChangeShapes Go.WideShapes

/-- Three bytes, as a key. -/
def k3 (k : UInt8 × UInt8 × UInt8) : Value := .agg #[.int .u8 k.1.toNat, .int .u8 k.2.1.toNat, .int .u8 k.2.2.toNat]
theorem k3_inj (a b : UInt8 × UInt8 × UInt8) (h : k3 a = k3 b) : a = b := by
  obtain ⟨a0, a1, a2⟩ := a
  obtain ⟨b0, b1, b2⟩ := b
  simp only [k3, Value.agg.injEq, Array.mk.injEq, List.cons.injEq, Value.int.injEq, true_and, and_true] at h
  obtain ⟨h0, h1, h2⟩ := h
  have e0 : a0 = b0 := UInt8.toNat_inj.1 (by omega)
  have e1 : a1 = b1 := UInt8.toNat_inj.1 (by omega)
  have e2 : a2 = b2 := UInt8.toNat_inj.1 (by omega)
  rw [e0, e1, e2]
theorem k3_laidOut : laidOutB Try.prog = true := by kernel_rfl
theorem k3_row : (49 : TypeId) < Try.prog.types.size := of_decide_eq_true (by kernel_rfl)
theorem k3_deep : Try.prog.keyTypeAt (Try.prog.types.size + 1) 49 = true := by kernel_rfl
theorem k3_wide : (match Try.prog.underlying 49 with | some (.array _ _) | some (.struct _) => true | _ => false) = true := by rw [Try.underlying49]
theorem k3_law : Keyed Try.prog 49 := Keyed.of_law (deep_law_laid k3_laidOut (m := 2) (by omega) k3_row (by kernel_rfl) k3_wide)
theorem k3_key (w : World) (k : UInt8 × UInt8 × UInt8) : ∃ kl, keyOf Try.prog 49 (k3 k) = some kl := by
  have hc : Try.prog.cellsOf 49 = 3 := by kernel_rfl
  have hc1 : Try.prog.cellsOf 5 = 1 := by kernel_rfl
  have hf : (k3 k).formed Try.prog 49 = true := by simp [k3, Value.formed, Try.underlying49, hc]
  have h0 := k.1.toNat_lt
  have h1 := k.2.1.toNat_lt
  have h2 := k.2.2.toNat_lt
  have w0 : (Lit.int .u8 (k.1.toNat : Int)).wf = true := by simp [Lit.wf, IntKind.min, IntKind.max, IntKind.bits, IntKind.signed]; omega
  have w1 : (Lit.int .u8 (k.2.1.toNat : Int)).wf = true := by simp [Lit.wf, IntKind.min, IntKind.max, IntKind.bits, IntKind.signed]; omega
  have w2 : (Lit.int .u8 (k.2.2.toNat : Int)).wf = true := by simp [Lit.wf, IntKind.min, IntKind.max, IntKind.bits, IntKind.signed]; omega
  have ht : DataW.Trod (H := Unit) (fun _ => ()) Try.prog w 0 (fun _ => true) true 49 (k3 k) (.agg [.lit (.int .u8 k.1.toNat), .lit (.int .u8 k.2.1.toNat), .lit (.int .u8 k.2.2.toNat)]) [] := by
    refine ⟨2, ?_⟩
    simp [DataW.trod, k3, Value.cells, Try.underlying49, Try.underlying5, hc, hc1, w0, w1, w2, List.range, List.range.loop]
  exact ⟨_, (keyOf_asKey k3_deep k3_wide hf ht).1⟩
end Go.Proofs.Yteblnmealnmipaa
