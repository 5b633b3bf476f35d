/- The plain law of package out: lines of a text. Lists of bytes, no program in sight. -/
import Derived.Test.YtfnadieccdgnnaaDoorBase
namespace Go.Proofs.YtfnadieccdgnnaaDoor
open Go.RowKit Go.PlainAid
set_option linter.unusedVariables false
set_option linter.unusedSimpArgs false

/-- A row of bytes, cut at each byte c; cur: the part that has begun. -/
def spl (c : UInt8) : List UInt8 → List UInt8 → List (List UInt8)
  | [], cur => [cur]
  | b :: t, cur => if b = c then cur :: spl c t [] else spl c t (cur ++ [b])
theorem spl_ne (c : UInt8) : ∀ (l cur : List UInt8), spl c l cur ≠ []
  | [], cur => by simp [spl]
  | b :: t, cur => by
    rw [spl]; split
    · simp
    · exact spl_ne c t _
/-- Behind bytes without c. -/
theorem spl_pre (c : UInt8) : ∀ (x l cur : List UInt8), c ∉ x → spl c (x ++ l) cur = spl c l (cur ++ x)
  | [], l, cur, _ => by simp
  | b :: t, l, cur, h => by
    have hb : b ≠ c := fun e => h (by rw [e]; exact List.mem_cons_self ..)
    show spl c (b :: (t ++ l)) cur = _
    rw [spl, if_neg hb, spl_pre c t l _ (fun e => h (List.mem_cons_of_mem _ e))]
    simp
theorem spl_at (c : UInt8) (l cur : List UInt8) : spl c (c :: l) cur = cur :: spl c l [] := by rw [spl, if_pos rfl]
/-- No part has the byte. -/
theorem spl_free (c : UInt8) : ∀ (l cur : List UInt8), c ∉ cur → ∀ x ∈ spl c l cur, c ∉ x
  | [], cur, h, x, hx => by simp [spl] at hx; rw [hx]; exact h
  | b :: t, cur, h, x, hx => by
    rw [spl] at hx
    split at hx
    · rcases List.mem_cons.1 hx with e | e
      · rw [e]; exact h
      · exact spl_free c t [] (by simp) x e
    · rename_i hb
      exact spl_free c t (cur ++ [b]) (by simp [h]; exact fun e => hb e.symm) x hx

def wordsO (l : List UInt8) : List (List UInt8) := (spl 32 l []).filter (fun w => !w.isEmpty)
def linesO (l : List UInt8) : List (List UInt8) := if (spl 10 l []).getLast (spl_ne 10 l []) = [] then (spl 10 l []).dropLast else spl 10 l []

/-- A word that is too long, cut: the full lines, and what is left. -/
def chopL (n : Nat) (w : List UInt8) : List (List UInt8) × List UInt8 :=
  if h : 0 < n ∧ n < w.length then (w.take n :: (chopL n (w.drop n)).1, (chopL n (w.drop n)).2) else ([], w)
termination_by w.length
decreasing_by all_goals (simp; omega)
theorem chop_more {n : Nat} {w : List UInt8} (h0 : 0 < n) (h : n < w.length) : chopL n w = (w.take n :: (chopL n (w.drop n)).1, (chopL n (w.drop n)).2) := by
  rw [chopL]; rw [dif_pos ⟨h0, h⟩]
theorem chop_end {n : Nat} {w : List UInt8} (h : w.length ≤ n) : chopL n w = ([], w) := by
  rw [chopL]; rw [dif_neg (by omega)]
theorem chop_ne {n : Nat} : ∀ (k : Nat) (w : List UInt8), w.length ≤ k → w ≠ [] → (chopL n w).2 ≠ []
  | 0, w, hk, hw => absurd (List.length_eq_zero_iff.1 (by omega)) hw
  | k + 1, w, hk, hw => by
    by_cases h : 0 < n ∧ n < w.length
    · rw [chop_more h.1 h.2]
      exact chop_ne k _ (by simp; omega) (fun e => by have := congrArg List.length e; simp at this; omega)
    · rw [chopL, dif_neg h]; exact hw

def putO (n : Nat) (st : List (List UInt8) × List UInt8) (w : List UInt8) : List (List UInt8) × List UInt8 :=
  if st.2 ≠ [] ∧ st.2.length + 1 + w.length ≤ n then (st.1, st.2 ++ 32 :: w)
  else ((if st.2 ≠ [] then st.1 ++ [st.2] else st.1) ++ (chopL n w).1, (chopL n w).2)
theorem put_ne (n : Nat) (st : List (List UInt8) × List UInt8) (w : List UInt8) (h : w ≠ []) : (putO n st w).2 ≠ [] := by
  unfold putO; split
  · simp
  · exact chop_ne _ _ (Nat.le_refl _) h
def foldO (n : Nat) (ws : List (List UInt8)) (st : List (List UInt8) × List UInt8) : List (List UInt8) × List UInt8 := ws.foldl (putO n) st
theorem fold_ne (n : Nat) : ∀ (ws : List (List UInt8)) (st : List (List UInt8) × List UInt8), (∀ w ∈ ws, w ≠ []) → (st.2 ≠ [] ∨ st.1 = []) → ((foldO n ws st).2 ≠ [] ∨ (foldO n ws st).1 = [])
  | [], st, _, h => h
  | w :: ws, st, hw, h => fold_ne n ws (putO n st w) (fun x hx => hw x (List.mem_cons_of_mem _ hx)) (.inl (put_ne n st w (hw w (List.mem_cons_self ..))))
/-- The lines of a paragraph's words. -/
def parO (n : Nat) (ws : List (List UInt8)) : List (List UInt8) := (foldO n ws ([], [])).1 ++ [(foldO n ws ([], [])).2]
def wrapO (n : Nat) (l : List UInt8) : List (List UInt8) := (linesO l).flatMap fun x => parO n (wordsO x)

theorem words_ne (l : List UInt8) : ∀ w ∈ wordsO l, w ≠ [] := by
  intro w hw
  have := (List.mem_filter.1 hw).2
  intro e; rw [e] at this; simp at this
theorem words_free (l : List UInt8) : ∀ w ∈ wordsO l, (32 : UInt8) ∉ w := fun w hw => spl_free 32 l [] (by simp) w (List.mem_filter.1 hw).1

/-! ### Lines one by one, words one by one -/
theorem lines_nil : linesO [] = [] := by decide
/-- The first line ends at a line feed. -/
theorem lines_feed (x l : List UInt8) (h : (10 : UInt8) ∉ x) : linesO (x ++ 10 :: l) = x :: linesO l := by
  have e : spl 10 (x ++ 10 :: l) [] = x :: spl 10 l [] := by rw [spl_pre 10 x _ _ h, List.nil_append, spl_at]
  unfold linesO
  simp only [e]
  rw [List.getLast_cons (spl_ne 10 l [])]
  split
  · rw [List.dropLast_cons_of_ne_nil (spl_ne 10 l [])]
  · rfl
/-- The last line, without a line feed. -/
theorem lines_last (x : List UInt8) (h : (10 : UInt8) ∉ x) (hx : x ≠ []) : linesO x = [x] := by
  have e : spl 10 x [] = [x] := by have := spl_pre 10 x [] [] h; rw [List.append_nil, List.nil_append] at this; rw [this]; rfl
  unfold linesO
  simp only [e, List.getLast_singleton]
  rw [if_neg hx]
theorem words_nil : wordsO [] = [] := by decide
theorem words_blank (l : List UInt8) : wordsO (32 :: l) = wordsO l := by
  unfold wordsO; rw [spl_at]; rfl
theorem words_blank_end (x l : List UInt8) (h : (32 : UInt8) ∉ x) (hx : x ≠ []) : wordsO (x ++ 32 :: l) = x :: wordsO l := by
  unfold wordsO
  rw [spl_pre 32 x _ _ h, List.nil_append, spl_at, List.filter_cons, if_pos (by cases x <;> simp_all)]
theorem words_last (x : List UInt8) (h : (32 : UInt8) ∉ x) (hx : x ≠ []) : wordsO x = [x] := by
  unfold wordsO
  have e : spl 32 x [] = [x] := by have := spl_pre 32 x [] [] h; rw [List.append_nil, List.nil_append] at this; rw [this]; rfl
  rw [e, List.filter_cons, if_pos (by cases x <;> simp_all)]; rfl
end Go.Proofs.YtfnadieccdgnnaaDoor
