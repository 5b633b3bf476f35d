/- Contracts of the functions of package num and of clewref01 that only reckon with whole numbers: each returns the number that the plain function of the same name gives. -/
import Derived.Test.YtbcpopakdlplgaaDoorBase
import Derived.WalkKit
import Derived.WalkSpells
import Derived.WalkLawsBesides
import Derived.Lib.Hide
import Derived.Handy
namespace Go.Proofs.YtbcpopakdlplgaaDoor
open Go.RowKit

/-- The value that a number is: modulo 2^16, as a signed number. -/
def wr (n : Int) : Int := (n + 32768) % 65536 - 32768
theorem wr_bd (n : Int) : -32768 ≤ wr n ∧ wr n ≤ 32767 := by unfold wr; omega
theorem wr_in (n : Int) (h : -32768 ≤ n ∧ n ≤ 32767) : wr n = n := by unfold wr; omega
theorem i16_wr (n : Int) : IntKind.i16.wrap n = wr n := by
  unfold wr; simp [IntKind.wrap, IntKind.bits, IntKind.signed]; split <;> omega

theorem numWrap (n : Int) (w : World) : Calls Tryd.prog 50 #[.int .i64 n] w fun e w' => e = .returned (.int .i64 (wr n)) ∧ w = w' := by
  go_enter Tryd.func50, Tryd.ntmps50
  go_wp2
  go_ret
  exact ⟨ret_i (by rw [i16_wr]; exact IntWalk.wrap64_in _ (by have := wr_bd n; omega)), rfl⟩

theorem numIs (n : Int) (w : World) : Calls Tryd.prog 32 #[.int .i64 n] w fun e w' => e = .returned (.bool (n == wr n)) ∧ w = w' := by
  have hw : wrap64 (IntKind.i16.wrap n) = wr n := by rw [i16_wr]; exact IntWalk.wrap64_in _ (by have := wr_bd n; omega)
  go_enter Tryd.func32, Tryd.ntmps32
  go_wp2
  go_ret
  exact ⟨ret_b rfl, rfl⟩

theorem is_eq (n : Int) : (n == wr n) = decide (-32768 ≤ n ∧ n ≤ 32767) := by
  unfold wr; rw [Bool.eq_iff_iff]; simp; omega

theorem refIs (n : Int) (w : World) : Calls Tryd.prog 53 #[.int .i64 n] w fun e w' => e = .returned (.bool (n == wr n)) ∧ w = w' := by
  go_enter Tryd.func53, Tryd.ntmps53
  go_wp2
  · have h : -32768 ≤ n := by assumption
    go_ret
    exact ⟨ret_b (by rw [is_eq]; simp [h]), rfl⟩
  · have h : n < -32768 := by assumption
    go_ret
    exact ⟨ret_b (by rw [is_eq]; symm; simp; omega), rfl⟩

theorem tm_pos (n : Int) (h : 0 ≤ n) : n.tmod 65536 = n % 65536 := Int.tmod_eq_emod_of_nonneg h
theorem tm_neg (n : Int) (h : n < 0) : n.tmod 65536 = -((-n) % 65536) := by
  have := Int.neg_tmod (-n) 65536
  rw [Int.neg_neg] at this; rw [this, Int.tmod_eq_emod_of_nonneg (by omega)]
theorem tm_bd (n : Int) : -65535 ≤ n.tmod 65536 ∧ n.tmod 65536 ≤ 65535 := by
  by_cases h : 0 ≤ n
  · rw [tm_pos n h]; omega
  · rw [tm_neg n (by omega)]; omega
theorem tm_wr (n : Int) : wr n = if n.tmod 65536 < -32768 then n.tmod 65536 + 65536 else if 32767 < n.tmod 65536 then n.tmod 65536 - 65536 else n.tmod 65536 := by
  unfold wr
  by_cases h : 0 ≤ n
  · rw [tm_pos n h]; omega
  · rw [tm_neg n (by omega)]; omega

theorem refWrap (n : Int) (w : World) : Calls Tryd.prog 55 #[.int .i64 n] w fun e w' => e = .returned (.int .i64 (wr n)) ∧ w = w' := by
  have hb := tm_bd n
  have ht := Lib.hid (tm_wr n)
  go_enter Tryd.func55, Tryd.ntmps55
  go_wp2
  · have h : n.tmod 65536 < -32768 := by assumption
    go_ret
    exact ⟨ret_i (by rw [ht.out, if_pos h]), rfl⟩
  · have h : 32767 < n.tmod 65536 := by assumption
    go_ret
    exact ⟨ret_i (by rw [ht.out, if_neg (by omega), if_pos h]), rfl⟩
  · have h : n.tmod 65536 ≤ 32767 := by assumption
    have h2 : -32768 ≤ n.tmod 65536 := by assumption
    go_ret
    exact ⟨ret_i (by rw [ht.out, if_neg (by omega), if_neg (by omega)]), rfl⟩

theorem mul_bd (a b : Int) : -1073741824 ≤ wr a * wr b ∧ wr a * wr b ≤ 1073741824 := by
  have ha := wr_bd a
  have hb := wr_bd b
  generalize wr a = x at *
  generalize wr b = y at *
  have h1 : x.natAbs ≤ 32768 := by omega
  have h2 : y.natAbs ≤ 32768 := by omega
  have h3 : (x * y).natAbs ≤ 32768 * 32768 := by rw [Int.natAbs_mul]; exact Nat.mul_le_mul h1 h2
  omega

end Go.Proofs.YtbcpopakdlplgaaDoor
