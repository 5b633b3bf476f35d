/- The plain law of numbers' texts: what a text of digits is worth, whether it has the form of a number, and what Number and Parse answer. No program in sight. -/
import Derived.PlainAid
import Derived.Lib.Hide
namespace Go.Proofs.YtjnpinfnpnohmaaDoor
open Go.PlainAid

/-- What the first k bytes are worth as digits. -/
def nv (s : ByteArray) : Nat → Int
  | 0 => 0
  | k + 1 => 10 * nv s k + (bt s k - 48)
/-- The first k bytes are digits. -/
def dgs (s : ByteArray) : Nat → Bool
  | 0 => true
  | k + 1 => dgs s k && decide (48 ≤ bt s k ∧ bt s k ≤ 57)
/-- A text has the form of a number without a sign. -/
def form (s : ByteArray) : Bool := decide (0 < s.size) && !(decide (1 < s.size) && decide (bt s 0 = 48)) && dgs s s.size
def numN (s : ByteArray) (most : Int) : Int := if form s = true then (if nv s s.size ≤ most then nv s s.size else 0) else 0
def numE (s : ByteArray) (most : Int) : Int := if form s = true then (if nv s s.size ≤ most then 0 else 5) else 4

theorem dgs_le {s : ByteArray} {j k : Nat} (h : dgs s k = true) (hj : j ≤ k) : dgs s j = true := by
  induction k with
  | zero => have : j = 0 := by omega
            subst this; exact h
  | succ k ih =>
    by_cases e : j = k + 1
    · rw [e]; exact h
    · simp only [dgs, Bool.and_eq_true] at h; exact ih h.1 (by omega)
theorem dgs_bd {s : ByteArray} {k j : Nat} (h : dgs s k = true) (hj : j < k) : 48 ≤ bt s j ∧ bt s j ≤ 57 := by
  have := dgs_le h (show j + 1 ≤ k by omega)
  simp only [dgs, Bool.and_eq_true, decide_eq_true_eq] at this; exact this.2
theorem dgs_no {s : ByteArray} {k j : Nat} (hj : j < k) (h : ¬ (48 ≤ bt s j ∧ bt s j ≤ 57)) : dgs s k = false := by
  cases e : dgs s k with
  | false => rfl
  | true => exact absurd (dgs_bd e hj) h
theorem dgs_all {s : ByteArray} {k : Nat} (h : ∀ j, j < k → 48 ≤ bt s j ∧ bt s j ≤ 57) : dgs s k = true := by
  induction k with
  | zero => rfl
  | succ k ih => simp only [dgs, Bool.and_eq_true, decide_eq_true_eq]; exact ⟨ih fun j hj => h j (by omega), h k (by omega)⟩
theorem nv_nonneg {s : ByteArray} {k : Nat} (h : dgs s k = true) : 0 ≤ nv s k := by
  induction k with
  | zero => exact Int.le_refl _
  | succ k ih =>
    have := ih (dgs_le h (by omega))
    have hb := dgs_bd h (show k < k + 1 by omega)
    simp only [nv]; omega
theorem nv_mono {s : ByteArray} {j k : Nat} (h : dgs s k = true) (hj : j ≤ k) : nv s j ≤ nv s k := by
  induction k with
  | zero => have : j = 0 := by omega
            subst this; exact Int.le_refl _
  | succ k ih =>
    by_cases e : j = k + 1
    · rw [e]; exact Int.le_refl _
    · have h' := dgs_le h (show k ≤ k + 1 by omega)
      have := ih h' (by omega)
      have h0 := nv_nonneg h'
      have hb := dgs_bd h (show k < k + 1 by omega)
      simp only [nv]; omega

theorem numE_form {s : ByteArray} {most : Int} (h : form s = false) : numE s most = 4 ∧ numN s most = 0 := by simp [numE, numN, h]
theorem numE_over {s : ByteArray} {most : Int} (h : form s = true) (h1 : most < nv s s.size) : numE s most = 5 ∧ numN s most = 0 := by
  simp [numE, numN, h]; omega
theorem numE_ok {s : ByteArray} {most : Int} (h : form s = true) (h1 : nv s s.size ≤ most) : numE s most = 0 ∧ numN s most = nv s s.size := by
  simp [numE, numN, h]; omega
theorem form_dgs {s : ByteArray} (h : form s = true) : dgs s s.size = true := by simp only [form, Bool.and_eq_true] at h; exact h.2
theorem numN_bd (s : ByteArray) (most : Int) (hm : 0 ≤ most) : 0 ≤ numN s most ∧ numN s most ≤ most := by
  unfold numN
  by_cases h : form s = true
  · rw [if_pos h]
    have := nv_nonneg (form_dgs h)
    split <;> omega
  · rw [if_neg h]; omega
theorem numN_zero (s : ByteArray) (most : Int) (h : numE s most ≠ 0) : numN s most = 0 := by
  unfold numE at h; unfold numN
  by_cases hf : form s = true
  · rw [if_pos hf] at h ⊢
    by_cases hm : nv s s.size ≤ most
    · rw [if_pos hm] at h; exact absurd rfl h
    · rw [if_neg hm]
  · rw [if_neg hf]
theorem numE_cases (s : ByteArray) (most : Int) : numE s most = 0 ∨ numE s most = 4 ∨ numE s most = 5 := by
  unfold numE; split
  · split <;> simp
  · simp

/-- A text begins with a minus. -/
def negB (s : ByteArray) : Bool := decide (0 < s.size) && decide (bt s 0 = 45)
def parV (s : ByteArray) : Int :=
  if negB s = true then (if numE (s.extract 1 s.size) 32768 = 0 ∧ numN (s.extract 1 s.size) 32768 ≠ 0 then - numN (s.extract 1 s.size) 32768 else 0)
  else numN s 32767
def parE (s : ByteArray) : Int :=
  if negB s = true then (if numE (s.extract 1 s.size) 32768 ≠ 0 then numE (s.extract 1 s.size) 32768 else if numN (s.extract 1 s.size) 32768 = 0 then 4 else 0)
  else numE s 32767
end Go.Proofs.YtjnpinfnpnohmaaDoor
