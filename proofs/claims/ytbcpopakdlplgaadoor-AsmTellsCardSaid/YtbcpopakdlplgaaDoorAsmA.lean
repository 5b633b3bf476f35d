/- Contracts of asm's, op's and clewref30's smallest functions. -/
import Derived.Test.YtbcpopakdlplgaaDoorMem
import Derived.Test.YtbcpopakdlplgaaDoorNum
import Derived.Test.YtbcpopakdlplgaaDoorAsmPlain
import Derived.WalkKit
import Derived.WalkSpells
import Derived.WalkLawsBesides
import Derived.Lib.Hide
import Derived.Handy
namespace Go.Proofs.YtbcpopakdlplgaaDoor
open Go.RowKit
set_option linter.unusedVariables false
set_option linter.unusedSimpArgs false

/-- An instruction's value. -/
def insV (x : IN) : Value := .agg #[.int .i64 x.op, .int .i64 x.arg]

theorem asksC (x : IN) (w : World) : Calls Tryd.prog 23 #[insV x] w fun e w' => e = .returned (.bool (isJ x)) ∧ Below w.heap.size w w' := by
  unfold insV isJ
  go_enter Tryd.func23, Tryd.ntmps23
  go_wp2
  · go_ret
    exact ⟨ret_b (by simp [*]), (Below.refl _ _).alloc (Nat.le_refl _) _⟩
  · go_ret
    exact ⟨ret_b (by simp [*]), (Below.refl _ _).alloc (Nat.le_refl _) _⟩
theorem jumpsC (x : IN) (w : World) : Calls Tryd.prog 26 #[insV x] w fun e w' => e = .returned (.bool (isJ x)) ∧ Below w.heap.size w w' := by
  unfold insV isJ
  go_enter Tryd.func26, Tryd.ntmps26
  go_wp2
  · go_ret
    exact ⟨ret_b (by simp [*]), (Below.refl _ _).alloc (Nat.le_refl _) _⟩
  · go_ret
    exact ⟨ret_b (by simp [*]), (Below.refl _ _).alloc (Nat.le_refl _) _⟩
theorem needC (n : Int) (w : World) : Calls Tryd.prog 52 #[.int .i64 n] w fun e w' => e = .returned (.int .i64 (needN n)) ∧ w = w' := by
  unfold needN
  go_enter Tryd.func52, Tryd.ntmps52
  go_wp2
  all_goals go_ret
  all_goals exact ⟨ret_i (by (repeat' split) <;> simp_all <;> omega), rfl⟩
end Go.Proofs.YtbcpopakdlplgaaDoor
