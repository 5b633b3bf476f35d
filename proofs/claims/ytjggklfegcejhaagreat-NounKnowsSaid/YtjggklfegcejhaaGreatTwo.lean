/- Tables and a world that fit one another; their two boxes in a later world. -/
import Derived.Test.YtjggklfegcejhaaGreatTop
import Derived.Test.YtjggklfegcejhaaGreatTab
import Derived.Test.YtjggklfegcejhaaGreatFitsA
namespace Go.Proofs.YtjggklfegcejhaaGreat
open Go.RowKit Go.PlainAid
set_option linter.unusedVariables false
set_option linter.unusedSimpArgs false

/-- Tables and a world that fit one another. -/
structure TW (t : TbC) (n : Nat) : Prop where
  th : t.th.length = n
  two : 2 ≤ n
  tx : ∀ s ∈ t.tx, s.length ≤ 1024
theorem ups_ne {pa : List Int} {n k : Nat} {x : Int} (hx : isW n x = true) (hk : 0 < k) : upsW pa n k x ≠ [] := by
  cases k with
  | zero => omega
  | succ k => rw [upsW, if_pos hx]; simp
/-- The room is a thing. -/
theorem top_is {pa : List Int} {n : Nat} {x : Int} (hx : isW n x = true) (hn : 0 < n) : isW n (topOf pa n x) = true := by
  unfold topOf
  have h1 := ups_ne (pa := pa) (k := n) hx hn
  rw [List.getLast?_eq_some_getLast h1]
  exact ups_is pa n n x _ (List.getLast_mem h1)
/-- The two boxes, in a later world. -/
structure Two (x : TAd) (t : TbC) (q : Wv) (w wr : World) : Prop where
  bt : BK wr w.heap.size (tabC x t) 28
  bw : BK wr (w.heap.size + 1) (worldC q) 31
  bl : Below w.heap.size w wr
theorem Two.below {x : TAd} {t : TbC} {q : Wv} {w wr w' : World} (h : Two x t q w wr) (hb : Below wr.heap.size wr w') : Two x t q w w' := ⟨h.bt.below hb, h.bw.below hb, bl_then h.bl hb⟩
theorem Two.new (x : TAd) (t : TbC) (q : Wv) (w : World) : Two x t q w ((w.alloc (.cells (tabC x t).toArray 28)).alloc (.cells (worldC q).toArray 31)) := by
  have z1 : (w.alloc (.cells (tabC x t).toArray 28)).heap.size = w.heap.size + 1 := World.size_alloc _ _
  refine ⟨(BK.new w (tabC x t) 28).alloc _, ?_, bl_a (bl_a (Below.refl _ _) _) _⟩
  have := BK.new (w.alloc (.cells (tabC x t).toArray 28)) (worldC q) 31
  rwa [z1] at this
end Go.Proofs.YtjggklfegcejhaaGreat
