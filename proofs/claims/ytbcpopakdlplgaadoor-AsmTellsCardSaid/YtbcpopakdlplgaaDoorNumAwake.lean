/- Contract of clewlaw01.awake: it answers true. -/
import Derived.Test.YtbcpopakdlplgaaDoorNumParse2
namespace Go.Proofs.YtbcpopakdlplgaaDoor
open Go.RowKit Go.PlainAid

end Go.Proofs.YtbcpopakdlplgaaDoor
