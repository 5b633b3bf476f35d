/- What the listed data of this seat's rows give: the table of powers of ten. -/
import Derived.Test.YtmelilppeikdiaaDoorRows
import Derived.Test.YtmelilppeikdiaaDoorPrint
import Derived.Lib.LaidTab
import Derived.Stop.LaidErr
namespace Go.Proofs.YtmelilppeikdiaaDoor
open Go
theorem door_tab (W : World) (hL : laidMet Tryd.prog [("math/bits.deBruijn32tab", Rows.laid_math_bits_deBruijn32tab), ("math/bits.deBruijn64tab", Rows.laid_math_bits_deBruijn64tab), ("internal/strconv.uint64pow10", Rows.laid_internal_strconv_uint64pow10)] W) :
    Lib.TabIs Tryd.prog W "internal/strconv.uint64pow10" .u64 Lib.pow10Tab := by
  have hd : (Rows.laid_internal_strconv_uint64pow10 : DataW Unit) = Lib.tabData .u64 Lib.pow10Tab := by kernel_rfl
  have h3 : laidMet Tryd.prog [("internal/strconv.uint64pow10", Lib.tabData .u64 Lib.pow10Tab)] W := by
    rw [← hd]; exact laidMet.tail (laidMet.tail hL)
  exact Lib.tabIs_of_head (g := 1) (by kernel_rfl) (by kernel_rfl) Tryd.underlying82 Tryd.underlying57 (by kernel_rfl) (by kernel_rfl) h3
end Go.Proofs.YtmelilppeikdiaaDoor
