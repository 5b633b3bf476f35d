/- Contracts of clewref04.Same and clewref38.Lists where both lists hold the same texts: they answer true. -/
import Derived.Test.YtfnadieccdgnnaaDoorBase
import Derived.BigQuiet
import Derived.Deep.QuietTactic
namespace Go.Proofs.YtfnadieccdgnnaaDoor
open Go.RowKit Go.PlainAid

/-- The slice value v reads as lists of texts. -/
def LL (w : World) (v : Value) (ls : List (List ByteArray)) : Prop :=
  ∃ vs, SL w v vs ∧ vs.length = ls.length ∧ ∀ i (h : i < vs.length) (h' : i < ls.length), SL w vs[i] (ls[i].map Value.string)

theorem LL.below {w w' : World} {v : Value} {ls : List (List ByteArray)} (h : LL w v ls) (hb : Below w.heap.size w w') : LL w' v ls := by
  obtain ⟨vs, h1, h2, h3⟩ := h
  exact ⟨vs, h1.below hb, h2, fun i a b => (h3 i a b).below hb⟩
theorem below_drewN {B : Nat} {a w : World} (h : Below B a w) (n : Nat) : Below B a (w.drewN n) := h.trans ⟨rfl, rfl, rfl, Nat.le_refl _, fun _ _ => rfl⟩

theorem quiet_add {P : Program} {f : FuncId} {args : Array Value} {w : World} {a n : Nat} {v : Value}
    (h : Calls P f args (w.drewN (a + n)) fun e w' => e = .returned v ∧ ∃ m, w' = (w.drewN (a + n)).drewN m) :
    Calls P f args (w.drewN (a + n)) fun e w'' => e = .returned v ∧ ∃ m, w'' = w.drewN (a + m) :=
  h.mono fun _ _ ⟨he, m, hm⟩ => ⟨he, n + m, by rw [hm, World.drewN_drewN, Nat.add_assoc]⟩
end Go.Proofs.YtfnadieccdgnnaaDoor
