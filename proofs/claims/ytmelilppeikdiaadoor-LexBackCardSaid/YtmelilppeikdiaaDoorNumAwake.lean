/- Contract of clewlaw01.awake: it answers true. -/
import Derived.Test.YtmelilppeikdiaaDoorNumParse2
namespace Go.Proofs.YtmelilppeikdiaaDoor
open Go.RowKit Go.PlainAid

end Go.Proofs.YtmelilppeikdiaaDoor
