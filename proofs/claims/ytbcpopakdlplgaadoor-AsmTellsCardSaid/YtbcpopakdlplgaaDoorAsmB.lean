/- Contracts of op's and clewref27's small functions: known, among, one, Has, size. -/
import Derived.Test.YtbcpopakdlplgaaDoorAsmA
import Derived.Test.YtbcpopakdlplgaaDoorShelf
namespace Go.Proofs.YtbcpopakdlplgaaDoor
open Go.RowKit
set_option linter.unusedVariables false
set_option linter.unusedSimpArgs false

theorem knownC (n : Int) (w : World) : Calls Tryd.prog 48 #[.int .i64 n] w fun e w' => e = .returned (.bool (decide (1 ≤ n) && decide (n ≤ 38))) ∧ w = w' := by
  go_enter Tryd.func48, Tryd.ntmps48
  go_wp2
  all_goals go_ret
  all_goals exact ⟨ret_b (by simp <;> omega), rfl⟩
theorem amongC (n a b : Int) (w : World) : Calls Tryd.prog 47 #[.int .i64 n, .int .i64 a, .int .i64 b] w fun e w' => e = .returned (.bool (decide (a ≤ n) && decide (n < b))) ∧ w = w' := by
  go_enter Tryd.func47, Tryd.ntmps47
  go_wp2
  all_goals go_ret
  all_goals exact ⟨ret_b (by simp <;> omega), rfl⟩
theorem sizeC (n : Int) (w : World) : Calls Tryd.prog 49 #[.int .i64 n] w fun e w' => e = .returned (.int .i64 (needN n)) ∧ w = w' := by
  unfold needN
  go_enter Tryd.func49, Tryd.ntmps49
  go_wp2
  all_goals go_ret
  all_goals exact ⟨ret_i (by (repeat' split) <;> simp_all <;> omega), rfl⟩
theorem bytesC (n : Int) (w : World) : Calls Tryd.prog 56 #[.int .i64 n] w fun e w' => e = .returned (.int .i64 (needN n)) ∧ w = w' := by
  unfold needN
  go_enter Tryd.func56, Tryd.ntmps56
  go_wp2
  all_goals go_ret
  all_goals exact ⟨ret_i (by (repeat' split) <;> simp_all <;> omega), rfl⟩
theorem oneC (b off n c : Nat) (zs : List Int) (x : Int) (w : World) (hz : n ≤ zs.length) (hbig : n ≤ 9223372036854775807) (hc : ∀ j, j < zs.length → w.cell? ⟨b, off + j, none⟩ = some (.int .i64 (zs.getD j 0))) :
    Calls Tryd.prog 58 #[.int .i64 x, .slice (some ⟨b, off, none⟩) n c] w fun e w' => e = .returned (.bool ((zs.take n).contains x)) ∧ w = w' := by
  go_enter Tryd.func58, Tryd.ntmps58
  go_wp2_with fail
  refine (Tryd.slices_Contains_int b off n c zs x w hz hbig hc).mono ?_
  rintro e w' ⟨rfl, rfl⟩
  go_wp2_with fail
  go_ret
  exact ⟨ret_b (by simp), rfl⟩
/-- A list of numbers, laid anew. -/
theorem ints_cell (w : World) (zs : List Int) (T : TypeId) : ∀ j, j < zs.length → (w.alloc (.cells (zs.map fun z => Value.int .i64 z).toArray T)).cell? ⟨w.heap.size, 0 + j, none⟩ = some (.int .i64 (zs.getD j 0)) := fun j hj => by
  rw [(BK.new w (zs.map fun z => Value.int .i64 z) T).cell, Nat.zero_add, List.getElem?_map, List.getElem?_eq_getElem hj, List.getD_eq_getElem?_getD, List.getElem?_eq_getElem hj]
  rfl
def hasL : List Int := [1, 3, 4, 5, 6, 7, 8, 12, 13, 14, 15, 16, 19, 21, 24, 25, 26, 32, 33, 38]
theorem hasC (n : Int) (w : World) : Calls Tryd.prog 42 #[.int .i64 n] w fun e w' => e = .returned (.bool (hasA n)) ∧ Below w.heap.size w w' := by
  go_enter Tryd.func42, Tryd.ntmps42
  go_wp2_with fail
  refine (oneC w.heap.size 0 20 20 hasL n _ (by decide) (by decide) (ints_cell w hasL _)).mono ?_
  rintro e w' ⟨rfl, rfl⟩
  go_wp2_with fail
  go_ret
  exact ⟨ret_b (by show decide (n ∈ hasL) = hasL.contains n; simp), (Below.refl _ _).alloc (Nat.le_refl _) _⟩
end Go.Proofs.YtbcpopakdlplgaaDoor
