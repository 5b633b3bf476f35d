/- Contract of strconv.FormatUint at base 10 and of strconv.Itoa over this translation: the decimal numeral, in new memory. After the library's own proof of FormatInt. -/
import Derived.Test.YtjnpinfnpnohmaaDoorShelf
import Derived.Test.YtjnpinfnpnohmaaDoorRows
import Derived.WalkKit
import Derived.WalkSpells
import Derived.WalkLawsBesides
import Derived.Lib.Walk
import Derived.Lib.ItoaMem
import Derived.Lib.AppendIntMem
import Derived.Laws.IdiomStrings
import Derived.BigCall
import Derived.BigGuard
namespace Go.Proofs.YtjnpinfnpnohmaaDoor
open Go.Shelf Go.RowKit Go.Sort Go.Lib

theorem fin_zero (w : World) (o : Obj) (dk : Array UInt8) (k : Nat) : ∃ os, (putRow (fun (b : UInt8) => Value.int .u8 (b.toNat : Int)) (w.alloc o) w.heap.size 0 dk).drewN k = grow (w.drewN k) os := by
  rw [alloc_eq_grow]
  obtain ⟨os', _, e⟩ := putRow_grow_new (fun (b : UInt8) => Value.int .u8 (b.toNat : Int)) w #[o] w.heap.size 0 dk (Nat.le_refl _)
  exact ⟨os', by rw [e]; rfl⟩

end Go.Proofs.YtjnpinfnpnohmaaDoor
