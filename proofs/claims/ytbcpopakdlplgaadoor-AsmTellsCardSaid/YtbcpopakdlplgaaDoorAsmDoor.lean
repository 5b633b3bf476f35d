/- What comes in at this seat: lists of instructions, bytes; the listed data. -/
import Derived.Test.YtbcpopakdlplgaaDoorAsmRd
import Derived.OpenShut
import Derived.Lib.LaidTab
import Derived.Stop.LaidErr
import Derived.Lib.AppendIntMem
namespace Go.Proofs.YtbcpopakdlplgaaDoor
open Go.RowKit Go.PlainAid Go.ChangeShapes Go.WideShapes Go.Deep
set_option linter.unusedVariables false
set_option linter.unusedSimpArgs false

theorem opens_ins : Opens Tryd.prog 37 Cd.ins := fun enc w base spare held fuel cs d h => by
  obtain ⟨h1, h2⟩ := opens_fields Tryd.underlying37 (by kernel_rfl) (by kernel_rfl) h
  obtain ⟨c0, c1, rfl⟩ : ∃ c0 c1, cs = [c0, c1] := by
    match cs, h1 with
    | [c0, c1], _ => exact ⟨_, _, rfl⟩
  obtain ⟨x0, y0⟩ := opens_one (c := Cd.int .i64) 0 _ h2 rfl (by simp) (opens_int Tryd.underlying3)
  obtain ⟨x1, y1⟩ := opens_one (c := Cd.int .i64) 1 _ h2 rfl (by simp) (opens_int Tryd.underlying3)
  refine ⟨⟨x0, x1⟩, ?_, ?_, ?_⟩
  · have e0 := y0.1
    have e1 := y1.1
    simp at e0 e1
    rw [e0, e1]; rfl
  · have := y0.2; unfold Wf; exact bounds_i64 this
  · have := y1.2; unfold Wf; exact bounds_i64 this
theorem opens_byte : Opens Tryd.prog 5 Cd.byte := fun enc w base spare held fuel cs d h => by
  obtain ⟨n, h1, _, h3⟩ := DataW.trod_int Tryd.underlying5 h
  have h4 : 0 ≤ n ∧ n ≤ 255 := bounds_u8 h3
  refine ⟨UInt8.ofNat n.toNat, ?_⟩
  rw [h1]
  have e : ((UInt8.ofNat n.toNat).toNat : Int) = n := by rw [UInt8.toNat_ofNat']; omega
  show [Value.int .u8 n] = [Value.int .u8 _]
  rw [e]
theorem opens_inss : Opens Tryd.prog 22 Cd.ins.seq := opens_seq Tryd.underlying22 (by kernel_rfl) (by decide) opens_ins
theorem opens_bytes : Opens Tryd.prog 27 Cd.byte.seq := opens_seq Tryd.underlying27 (by kernel_rfl) (by decide) opens_byte
theorem door_tab (W : World) (hL : laidMet Tryd.prog [("math/bits.deBruijn32tab", Rows.laid_math_bits_deBruijn32tab), ("math/bits.deBruijn64tab", Rows.laid_math_bits_deBruijn64tab), ("internal/strconv.uint64pow10", Rows.laid_internal_strconv_uint64pow10)] W) :
    Lib.TabIs Tryd.prog W "internal/strconv.uint64pow10" .u64 Lib.pow10Tab := by
  have hd : (Rows.laid_internal_strconv_uint64pow10 : DataW Unit) = Lib.tabData .u64 Lib.pow10Tab := by kernel_rfl
  have h3 : laidMet Tryd.prog [("internal/strconv.uint64pow10", Lib.tabData .u64 Lib.pow10Tab)] W := by
    rw [← hd]; exact laidMet.tail (laidMet.tail hL)
  exact Lib.tabIs_of_head (g := 0) (by kernel_rfl) (by kernel_rfl) Tryd.underlying84 Tryd.underlying72 (by kernel_rfl) (by kernel_rfl) h3
end Go.Proofs.YtbcpopakdlplgaaDoor
