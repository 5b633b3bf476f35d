/- Contracts of num.Div, num.Mod, clewref01.Div, clewref01.Mod: quotient and remainder of values, or the error's number. -/
import Derived.Test.YtbcpopakdlplgaaDoorNum
namespace Go.Proofs.YtbcpopakdlplgaaDoor
open Go.RowKit

theorem tdiv_bd (x y : Int) : (x.tdiv y).natAbs ≤ x.natAbs := by
  rw [Int.natAbs_tdiv]; exact Nat.div_le_self _ _
theorem wr_tdiv_bd (a b : Int) : -32768 ≤ (wr a).tdiv (wr b) ∧ (wr a).tdiv (wr b) ≤ 32768 := by
  have h := tdiv_bd (wr a) (wr b)
  have ha := wr_bd a
  omega
theorem tmod_bd (x y : Int) : (x.tmod y).natAbs ≤ x.natAbs := by
  rw [Int.natAbs_tmod]; exact Nat.mod_le _ _
theorem wr_tmod_bd (a b : Int) : -32768 ≤ (wr a).tmod (wr b) ∧ (wr a).tmod (wr b) ≤ 32768 := by
  have h := tmod_bd (wr a) (wr b)
  have ha := wr_bd a
  omega
theorem tdm (a b : Int) : wr a - (wr a).tdiv (wr b) * wr b = (wr a).tmod (wr b) := by
  have := Int.tmod_add_tdiv_mul (wr a) (wr b)
  generalize (wr a).tdiv (wr b) * wr b = t at *
  omega
theorem tdm_bd (a b : Int) : -65536 ≤ (wr a).tdiv (wr b) * wr b ∧ (wr a).tdiv (wr b) * wr b ≤ 65536 := by
  have h1 := tdm a b
  have h2 := wr_tmod_bd a b
  have h3 := wr_bd a
  generalize (wr a).tdiv (wr b) * wr b = t at *
  omega

theorem wr_tmod (a b : Int) (h : ¬ wr b = 0) : wr ((wr a).tmod (wr b)) = (wr a).tmod (wr b) := by
  have h1 : ((wr a).tmod (wr b)).natAbs < (wr b).natAbs := by rw [Int.natAbs_tmod]; exact Nat.mod_lt _ (by omega)
  have hb := wr_bd b
  exact wr_in _ (by omega)

end Go.Proofs.YtbcpopakdlplgaaDoor
