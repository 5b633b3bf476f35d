/- The plain law of what parts tokens, in the steps in which the reader goes past it. -/
import Derived.Test.YtmelilppeikdiaaDoorLexPlain
namespace Go.Proofs.YtmelilppeikdiaaDoor
open Go.RowKit Go.PlainAid

theorem blank_may {c : Int} (h : cBlank c = true) : cMay c = true ∧ c ≠ 47 := by
  simp only [cBlank, cMay, Bool.or_eq_true, decide_eq_true_eq] at h ⊢; omega
theorem mark_may {c : Int} (h : cMark c = true) : cMay c = true ∧ c ≠ 10 := by
  simp only [cMark, cSaid, cMay, Bool.or_eq_true, decide_eq_true_eq] at h ⊢; omega
theorem no_mark {c : Int} (h : cMark c = false) (h10 : c ≠ 10) : cMay c = false := by
  simp only [cMark, cSaid, cMay, Bool.or_eq_false_iff, decide_eq_false_iff_not] at h ⊢; omega

theorem gap_blank (l : List UInt8) : gapL l false = ((gapL (l.drop (runL cBlank l)) false).1 + runL cBlank l, (gapL (l.drop (runL cBlank l)) false).2) := by
  induction l with
  | nil => simp [runL]
  | cons b t ih =>
    rw [runL]
    by_cases h : cBlank (iv b) = true
    · have hm := blank_may h
      have hR : gapR b t false = false := by
        unfold gapR
        rw [if_neg (by omega)]; simp
      rw [if_pos h, gapL, if_neg (by rw [hm.1]; simp), hR, if_neg (by simp [h]), List.drop_succ_cons, ih]
      simp only [Prod.mk.injEq, and_true]; omega
    · rw [if_neg h]; simp

theorem gap_stop (l : List UInt8) (h : l = [] ∨ cBlank (hd l) = false) (h2 : ¬ (hd l = 47 ∧ hd (l.drop 1) = 47)) : (gapL l false).1 = 0 := by
  cases l with
  | nil => rfl
  | cons b t =>
    have hb : cBlank (iv b) = false := by rcases h with h | h <;> first | (simp at h; done) | exact h
    have hR : gapR b t false = false := by
      unfold gapR
      rw [if_neg (show ¬ (iv b = 47 ∧ hd t = 47) from h2)]; simp
    rw [gapL, hR]
    split
    · rfl
    · rw [if_pos ⟨rfl, hb⟩]

theorem gap_true (l : List UInt8) : gapL l true = ((gapL (l.drop (runL cMark l)) true).1 + runL cMark l, (gapL (l.drop (runL cMark l)) true).2) := by
  induction l with
  | nil => simp [runL]
  | cons b t ih =>
    rw [runL]
    by_cases h : cMark (iv b) = true
    · have hm := mark_may h
      have hR : gapR b t true = true := by
        unfold gapR
        split
        · rfl
        · rw [if_neg hm.2]
      rw [if_pos h, gapL, if_neg (by rw [hm.1]; simp), hR, if_neg (by simp), List.drop_succ_cons, ih]
      simp only [Prod.mk.injEq, and_true]; omega
    · rw [if_neg h]; simp

theorem gap_mark (l : List UInt8) (h : hd l = 47 ∧ hd (l.drop 1) = 47) :
    0 < runL cMark l ∧ (l.drop (runL cMark l) = [] → gapL l false = (runL cMark l, true)) ∧
    (hd (l.drop (runL cMark l)) = 10 → gapL l false = ((gapL (l.drop (runL cMark l)) false).1 + runL cMark l, (gapL (l.drop (runL cMark l)) false).2)) ∧
    (l.drop (runL cMark l) ≠ [] → hd (l.drop (runL cMark l)) ≠ 10 → gapL l false = (runL cMark l, false)) := by
  cases l with
  | nil => simp [hd] at h
  | cons b t =>
    have hb : iv b = 47 := h.1
    have hk : cMark (iv b) = true := by rw [hb]; decide
    have hsame : gapL (b :: t) false = gapL (b :: t) true := by
      have hR : ∀ rm, gapR b t rm = true := fun rm => by unfold gapR; rw [if_pos ⟨hb, by simpa using h.2⟩]
      rw [gapL, gapL, hR, hR]
    have hend := runL_end cMark (b :: t)
    have ht := gap_true (b :: t)
    have hpos : 0 < runL cMark (b :: t) := by rw [runL, if_pos hk]; omega
    refine ⟨hpos, ?_, ?_, ?_⟩
    · intro hn
      rw [hsame, ht, hn]; simp [gapL]
    · intro h10
      have : gapL ((b :: t).drop (runL cMark (b :: t))) true = gapL ((b :: t).drop (runL cMark (b :: t))) false := by
        generalize (b :: t).drop (runL cMark (b :: t)) = l2 at h10
        cases l2 with
        | nil => rfl
        | cons c u =>
          have hc : iv c = 10 := h10
          have hR : ∀ rm, gapR c u rm = false := fun rm => by unfold gapR; rw [if_neg (by omega), if_pos hc]
          rw [gapL, gapL, hR, hR]
      rw [hsame, ht, this]
    · intro hne h10
      have hlt : runL cMark (b :: t) < (b :: t).length := by
        have := runL_le cMark (b :: t)
        rcases Nat.lt_or_eq_of_le this with h | h
        · exact h
        · exact absurd (by rw [h]; simp) hne
      have hf := no_mark (hend hlt) h10
      rw [hsame, ht]
      generalize (b :: t).drop (runL cMark (b :: t)) = l2 at hf hne
      cases l2 with
      | nil => exact absurd rfl hne
      | cons c u =>
        have hc : cMay (iv c) = false := hf
        rw [gapL, if_pos hc]; simp

/-- Where what parts tokens ends in fault, there stands a byte that may not be. -/
theorem gap_fault (l : List UInt8) : ∀ rm, (gapL l rm).2 = false → l.drop (gapL l rm).1 ≠ [] ∧ cMay (hd (l.drop (gapL l rm).1)) = false := by
  induction l with
  | nil => intro rm h; simp [gapL] at h
  | cons b t ih =>
    intro rm h
    rw [gapL] at h ⊢
    by_cases h1 : cMay (iv b) = false
    · rw [if_pos h1]; exact ⟨by simp, h1⟩
    · rw [if_neg h1] at h ⊢
      by_cases h2 : gapR b t rm = false ∧ cBlank (iv b) = false
      · rw [if_pos h2] at h; simp at h
      · rw [if_neg h2] at h ⊢
        rw [List.drop_succ_cons]
        exact ih _ h
end Go.Proofs.YtmelilppeikdiaaDoor
