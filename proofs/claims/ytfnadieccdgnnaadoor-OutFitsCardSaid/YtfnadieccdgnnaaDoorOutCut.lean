/- strings.Cut and strings.TrimLeft at one byte, in words of the plain law. -/
import Derived.Test.YtfnadieccdgnnaaDoorOutPlain
import Derived.Lib.IndexMore
import Derived.Lib.TrimByte
namespace Go.Proofs.YtfnadieccdgnnaaDoor
open Go.RowKit Go.PlainAid
set_option linter.unusedVariables false
set_option linter.unusedSimpArgs false

theorem ix_at (c : UInt8) (r : List UInt8) : ∀ x : List UInt8, c ∉ x → Lib.index (x ++ c :: r) [c] = x.length
  | [], _ => by
    show Lib.index (c :: r) [c] = 0
    unfold Lib.index
    rw [if_pos (by simp)]
  | b :: t, h => by
    have hb : b ≠ c := fun e => h (by rw [e]; exact List.mem_cons_self ..)
    have ih := ix_at c r t (fun e => h (List.mem_cons_of_mem _ e))
    show Lib.index (b :: (t ++ c :: r)) [c] = _
    unfold Lib.index
    rw [if_neg (by simp; exact fun e => hb e.symm), ih]
    have : (((t.length : Nat) : Int) == -1) = false := by rw [beq_eq_false_iff_ne]; omega
    simp [this]
theorem ix_no (c : UInt8) : ∀ x : List UInt8, c ∉ x → Lib.index x [c] = -1
  | [], _ => rfl
  | b :: t, h => by
    have hb : b ≠ c := fun e => h (by rw [e]; exact List.mem_cons_self ..)
    have ih := ix_no c t (fun e => h (List.mem_cons_of_mem _ e))
    unfold Lib.index
    rw [if_neg (by simp; exact fun e => hb e.symm), ih]; rfl
theorem cut_at (c : UInt8) (x r : List UInt8) (h : c ∉ x) : Lib.cut (x ++ c :: r) [c] = (x, r, true) := by
  unfold Lib.cut
  rw [ix_at c r x h, if_pos (by omega)]
  simp
theorem cut_no (c : UInt8) (x : List UInt8) (h : c ∉ x) : Lib.cut x [c] = (x, [], false) := by
  unfold Lib.cut
  rw [ix_no c x h, if_neg (by decide)]
theorem part_at (c : UInt8) : ∀ l : List UInt8, c ∈ l → ∃ x r, l = x ++ c :: r ∧ c ∉ x
  | [], h => by simp at h
  | b :: t, h => by
    by_cases e : b = c
    · exact ⟨[], t, by rw [e]; rfl, by simp⟩
    · have ht : c ∈ t := by rcases List.mem_cons.1 h with h | h; exact absurd h.symm e; exact h
      obtain ⟨x, r, h1, h2⟩ := part_at c t ht
      exact ⟨b :: x, r, by rw [h1]; rfl, by simp; exact ⟨fun k => e k.symm, h2⟩⟩
/-- One round of Wrap: a first line, and the rest. -/
theorem cut_lines (l : List UInt8) (h : l ≠ []) : (10 : UInt8) ∉ (Lib.cut l [10]).1 ∧ linesO l = (Lib.cut l [10]).1 :: linesO (Lib.cut l [10]).2.1 ∧ (Lib.cut l [10]).1.length + (Lib.cut l [10]).2.1.length ≤ l.length ∧ (Lib.cut l [10]).2.1.length < l.length := by
  by_cases hm : (10 : UInt8) ∈ l
  · obtain ⟨x, r, rfl, hx⟩ := part_at 10 l hm
    rw [cut_at 10 x r hx]
    refine ⟨hx, lines_feed x r hx, ?_, ?_⟩
    · simp
    · simp; omega
  · rw [cut_no 10 l hm]
    refine ⟨hm, by rw [lines_last l hm h, lines_nil], by simp, ?_⟩
    exact List.length_pos_iff.2 h
/-- One round of paragraph: a first word, and the rest. -/
theorem cut_words (l : List UInt8) (h : l ≠ []) (h0 : l.head? ≠ some 32) : (Lib.cut l [32]).1 ≠ [] ∧ wordsO l = (Lib.cut l [32]).1 :: wordsO (Lib.cut l [32]).2.1 ∧ (Lib.cut l [32]).1.length + (Lib.cut l [32]).2.1.length ≤ l.length := by
  by_cases hm : (32 : UInt8) ∈ l
  · obtain ⟨x, r, rfl, hx⟩ := part_at 32 l hm
    have hne : x ≠ [] := by intro e; subst e; exact h0 rfl
    rw [cut_at 32 x r hx]
    exact ⟨hne, words_blank_end x r hx hne, by simp⟩
  · rw [cut_no 32 l hm]
    exact ⟨h, by rw [words_last l hm h, words_nil], by simp⟩
theorem trim_words : ∀ l : List UInt8, wordsO (Lib.trimLeftB l 32) = wordsO l
  | [] => rfl
  | b :: t => by
    unfold Lib.trimLeftB
    rw [List.dropWhile_cons]
    by_cases e : b = 32
    · subst e
      rw [if_pos (by simp), words_blank]
      exact trim_words t
    · rw [if_neg (by simp; exact e)]
theorem trim_head (l : List UInt8) : (Lib.trimLeftB l 32).head? ≠ some 32 := by
  unfold Lib.trimLeftB
  induction l with
  | nil => simp
  | cons b t ih =>
    rw [List.dropWhile_cons]
    by_cases e : b = 32
    · rw [if_pos (by simp [e])]; exact ih
    · rw [if_neg (by simp; exact e)]; simp; exact e
theorem trim_len (l : List UInt8) : (Lib.trimLeftB l 32).length ≤ l.length := by
  unfold Lib.trimLeftB; exact (List.dropWhile_sublist _).length_le
end Go.Proofs.YtfnadieccdgnnaaDoor
