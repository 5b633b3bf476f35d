/- Contracts of clewref01.form, clewref01.Number, num.Number, and of the closure in num.Parse. -/
import Derived.Test.YtbcpopakdlplgaaDoorNumDiv
import Derived.Test.YtbcpopakdlplgaaDoorNumPlain
namespace Go.Proofs.YtbcpopakdlplgaaDoor
open Go.RowKit Go.PlainAid

theorem form_no0 {s : ByteArray} (h : s.size = 0) : form s = false := by simp [form, h]
theorem form_no48 {s : ByteArray} (h : 1 < s.size) (h0 : bt s 0 = 48) : form s = false := by simp [form, h, h0]
theorem form_at {s : ByteArray} (hz : 0 < s.size) (h : ¬ (1 < s.size ∧ bt s 0 = 48)) : form s = dgs s s.size := by
  unfold form
  have h1 : decide (0 < s.size) = true := decide_eq_true hz
  have h2 : (decide (1 < s.size) && decide (bt s 0 = 48)) = false := by
    by_cases a : 1 < s.size
    · have : ¬ bt s 0 = 48 := fun e => h ⟨a, e⟩
      simp [this]
    · simp [a]
  rw [h1, h2]; rfl

end Go.Proofs.YtbcpopakdlplgaaDoor
