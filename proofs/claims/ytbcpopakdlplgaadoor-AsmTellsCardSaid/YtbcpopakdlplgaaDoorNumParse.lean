/- Contracts of num.Number, num.Parse, clewref01.Parse. -/
import Derived.Test.YtbcpopakdlplgaaDoorNumNumber
namespace Go.Proofs.YtbcpopakdlplgaaDoor
open Go.RowKit Go.PlainAid

theorem wrap_u64_le (n : Int) : IntKind.u64.wrap n ≤ 18446744073709551615 := by rw [IntKind.wrap_u64]; omega

end Go.Proofs.YtbcpopakdlplgaaDoor
