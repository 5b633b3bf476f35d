/- Contracts of nest.Is, nest.children. -/
import Derived.Test.YtjggklfegcejhaaGreatRange
import Derived.Test.YtjggklfegcejhaaGreatWorld
namespace Go.Proofs.YtjggklfegcejhaaGreat
open Go.RowKit Go.Shelf
set_option linter.unusedVariables false
set_option linter.unusedSimpArgs false
attribute [local go_sem] Oper.semAt_some

theorem bl_oneA (w : World) (o : Obj) : Below w.heap.size w (w.alloc o) := (Below.refl _ _).alloc (Nat.le_refl _) o
theorem isC (q : Wv) (x : Int) (w : World) (hm : q.l1 ≤ maxLen) :
    Calls Tryz.prog 63 #[worldV q, .int .i64 x] w fun e w' => e = .returned (.bool (isW q.l1 x)) ∧ Below w.heap.size w w' := by
  unfold worldV worldC
  unfold maxLen at hm
  obtain ⟨a0, a1, a2, a3, a4, a5, a6, l0, n, l2, l3, l4, l5, l6, c0, c1, c2, c3, c4, c5, c6, s, sc, tu, ov, it, go⟩ := q
  simp only at hm ⊢
  by_cases h1 : 1 ≤ x
  · by_cases h2 : x < (n : Int)
    · have h : isW n x = true := by unfold isW; simp [h1, h2]
      rw [h]
      clear h
      go_enter Tryz.func63, Tryz.ntmps63
      go_wp2
      go_ret
      exact ⟨rfl, bl_oneA _ _⟩
    · have h : isW n x = false := by unfold isW; simp [h2]
      rw [h]
      clear h
      go_enter Tryz.func63, Tryz.ntmps63
      go_wp2
      go_ret
      exact ⟨rfl, bl_oneA _ _⟩
  · have h : isW n x = false := by unfold isW; simp [h1]
    rw [h]
    clear h
    go_enter Tryz.func63, Tryz.ntmps63
    go_wp2
    go_ret
    exact ⟨rfl, bl_oneA _ _⟩
/-- children: a function over two boxes. -/
theorem mkC (q : Wv) (x : Int) (w : World) :
    Calls Tryz.prog 144 #[worldV q, .int .i64 x] w fun e w' => e = .returned (.func (.func 146) #[] #[.pointer (some ⟨w.heap.size, 0, none⟩), .pointer (some ⟨w.heap.size + 1, 0, none⟩)]) ∧
      w' = (w.alloc (.cells (worldC q).toArray 31)).alloc (.cells #[.int .i64 x] 3) := by
  unfold worldV worldC
  go_enter Tryz.func144, Tryz.ntmps144
  go_wp2
  go_ret
  exact ⟨rfl, rfl⟩
end Go.Proofs.YtjggklfegcejhaaGreat
