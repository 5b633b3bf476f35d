/- Contracts of num.Parse and clewref01.Parse: the value of a text, or the error's number. -/
import Derived.Test.YtbcpopakdlplgaaDoorNumParse
namespace Go.Proofs.YtbcpopakdlplgaaDoor
open Go.RowKit Go.PlainAid

theorem ext_size (s : ByteArray) : (s.extract 1 s.size).size ≤ s.size := by simp
theorem neg_pos {s : ByteArray} (h : negB s = true) : 0 < s.size := by simp only [negB, Bool.and_eq_true, decide_eq_true_eq] at h; exact h.1

end Go.Proofs.YtbcpopakdlplgaaDoor
