/- The plain law of package out, its last part: how long wrapped lines are, pages put together, what OutFits asks. -/
import Derived.Test.YtfnadieccdgnnaaDoorOutPages
import Derived.Test.YtfnadieccdgnnaaDoorOutRef3
namespace Go.Proofs.YtfnadieccdgnnaaDoor
open Go.RowKit Go.PlainAid
set_option linter.unusedVariables false
set_option linter.unusedSimpArgs false

/-! ### How long wrapped lines are -/
theorem tot_app : ∀ a b : List (List UInt8), totO (a ++ b) = totO a + totO b
  | [], b => by simp [totO]
  | x :: a, b => by rw [List.cons_append, totO, totO, tot_app a b]; omega
theorem chop_tot (n : Nat) : ∀ (k : Nat) (w : List UInt8), w.length ≤ k → totO (chopL n w).1 + (chopL n w).2.length ≤ 2 * w.length
  | k, w, hk => by
    by_cases h : 0 < n ∧ n < w.length
    · cases k with
      | zero => omega
      | succ k =>
        rw [chop_more h.1 h.2]
        have := chop_tot n k (w.drop n) (by simp; omega)
        rw [totO]
        simp at this ⊢; omega
    · rw [chopL, dif_neg h, totO]; show 0 + w.length ≤ _; omega
theorem put_tot (n : Nat) (st : List (List UInt8) × List UInt8) (w : List UInt8) (hw : w ≠ []) : totO (putO n st w).1 + (putO n st w).2.length ≤ totO st.1 + st.2.length + 3 * w.length := by
  have h1 := chop_tot n _ w (Nat.le_refl _)
  have h2 : 0 < w.length := List.length_pos_iff.2 hw
  unfold putO
  split
  · simp; omega
  · rw [tot_app]
    split
    · rw [tot_app, totO, totO]
      show totO st.1 + (st.2.length + 1 + 0) + totO (chopL n w).1 + (chopL n w).2.length ≤ _
      omega
    · show totO st.1 + totO (chopL n w).1 + (chopL n w).2.length ≤ _
      omega
theorem fold_tot (n : Nat) : ∀ (ws : List (List UInt8)) (st : List (List UInt8) × List UInt8), (∀ w ∈ ws, w ≠ []) → totO (foldO n ws st).1 + (foldO n ws st).2.length ≤ totO st.1 + st.2.length + 3 * sumO ws
  | [], st, _ => by simp [foldO, sumO]
  | w :: ws, st, h => by
    have h1 := put_tot n st w (h w (List.mem_cons_self ..))
    have h2 := fold_tot n ws (putO n st w) (fun x hx => h x (List.mem_cons_of_mem _ hx))
    show totO (foldO n ws (putO n st w)).1 + (foldO n ws (putO n st w)).2.length ≤ _
    rw [sumO]; omega
theorem par_tot (n : Nat) (l : List UInt8) : totO (parO n (wordsO l)) ≤ 3 * l.length + 4 := by
  have h1 := fold_tot n (wordsO l) ([], []) (words_ne l)
  have h2 := sum_words (spl 32 l [])
  rw [tot_spl] at h2
  unfold parO
  rw [tot_app]
  unfold wordsO at h1 ⊢
  simp [totO] at h1 h2 ⊢; omega
theorem wrap_tot (n : Nat) (l : List UInt8) : totO (wrapO n l) ≤ 4 * l.length + 4 := by
  have h2 := tot_lines l
  have : ∀ L : List (List UInt8), totO (L.flatMap fun x => parO n (wordsO x)) ≤ 4 * totO L := by
    intro L
    induction L with
    | nil => simp [totO]
    | cons x t ih =>
      have := par_tot n x
      rw [List.flatMap_cons, tot_app, totO]; omega
  have := this (linesO l)
  unfold wrapO; omega
theorem feed_len : ∀ L : List (List UInt8), (feedO L).length = totO L
  | [] => rfl
  | x :: t => by
    have e : feedO (x :: t) = x ++ 10 :: feedO t := by simp [feedO]
    rw [e, totO, List.length_append, List.length_cons, feed_len t]; omega
theorem feed_snoc (L : List (List UInt8)) (x : List UInt8) : feedO (L ++ [x]) = feedO L ++ x ++ [10] := by simp [feedO]
theorem feed_take (L : List (List UInt8)) (k : Nat) (h : k < L.length) : feedO (L.take (k + 1)) = feedO (L.take k) ++ L[k] ++ [10] := by
  rw [List.take_succ_eq_append_getElem h, feed_snoc]
theorem tot_take (L : List (List UInt8)) (k : Nat) : totO (L.take k) ≤ totO L := by
  have := tot_app (L.take k) (L.drop k)
  rw [List.take_append_drop] at this; omega
theorem trip_len : ∀ l : List UInt8, (tripO l).length ≤ 3 * l.length
  | [] => by simp [tripO]
  | b :: t => by
    have := trip_len t
    rw [trip_cons, List.length_append]
    unfold tripB
    split <;> simp <;> omega
theorem trip_take (l : List UInt8) (k : Nat) (h : k < l.length) : tripO (l.take (k + 1)) = tripO (l.take k) ++ tripB l[k] := by
  rw [List.take_succ_eq_append_getElem h]
  unfold tripO
  rw [List.flatMap_append]
  show _ ++ (tripB l[k] ++ []) = _
  rw [List.append_nil]
theorem len_take_le (l : List UInt8) (k : Nat) : (tripO (l.take k)).length ≤ 3 * k := by
  have := trip_len (l.take k)
  simp at this; omega

/-! ### Pages put together -/
theorem pages_flat {α : Type} {n : Nat} (hn : 0 < n) : ∀ (k : Nat) (l : List α), l.length ≤ k → (pagesO n l).flatten = l
  | k, l, hk => by
    by_cases h : 0 < l.length
    · cases k with
      | zero => omega
      | succ k =>
        rw [pages_more hn h, List.flatten_cons, pages_flat hn k (l.drop n) (by simp; omega), List.take_append_drop]
    · have : l = [] := List.length_eq_zero_iff.1 (by omega)
      rw [this, pages_nil]; rfl
/-- Each page has lines, no more than it may; each but the last is full. -/
theorem pages_at {α : Type} {n : Nat} (hn : 0 < n) : ∀ (m : Nat) (l : List α), l.length ≤ m → ∀ k (h : k < (pagesO n l).length), 0 < ((pagesO n l)[k]).length ∧ ((pagesO n l)[k]).length ≤ n ∧ (k + 1 < (pagesO n l).length → ((pagesO n l)[k]).length = n)
  | m, l, hm, k, h => by
    by_cases h0 : 0 < l.length
    · cases m with
      | zero => omega
      | succ m =>
        have e := pages_more hn h0
        have ih := pages_at hn m (l.drop n) (by simp; omega)
        have hk : k < (l.take n :: pagesO n (l.drop n)).length := by rw [← e]; exact h
        have e2 : (pagesO n l)[k] = (l.take n :: pagesO n (l.drop n))[k] := by simp only [e]
        rw [e2, e]
        cases k with
        | zero =>
          simp
          refine ⟨by omega, by omega, fun hc => ?_⟩
          by_cases hln : n ≤ l.length
          · omega
          · exfalso
            rw [List.drop_eq_nil_of_le (by omega), pages_nil] at hc
            simp at hc
        | succ k =>
          have := ih k (by simpa using hk)
          simp at this ⊢
          exact this
    · exfalso
      have : l = [] := List.length_eq_zero_iff.1 (by omega)
      rw [this, pages_nil] at h
      simp at h
theorem flat_take {α : Type} (P : List (List α)) (k : Nat) (h : k < P.length) : (P.take (k + 1)).flatten = (P.take k).flatten ++ P[k] := by
  rw [List.take_succ_eq_append_getElem h, List.flatten_append, List.flatten_cons, List.flatten_nil, List.append_nil]
theorem flat_le {α : Type} (P : List (List α)) (k : Nat) : ((P.take k).flatten).length ≤ P.flatten.length := by
  have : P.flatten = (P.take k).flatten ++ (P.drop k).flatten := by rw [← List.flatten_append, List.take_append_drop]
  rw [this, List.length_append]; omega

/-! ### What OutFits asks -/
/-- The length of a line's first word. -/
def firstO (l : List UInt8) : Nat := (l.takeWhile fun b => b != 32).length
theorem first_le (l : List UInt8) : firstO l ≤ l.length := by unfold firstO; exact (List.takeWhile_sublist _).length_le
theorem first_free : ∀ (l : List UInt8), (32 : UInt8) ∉ l → firstO l = l.length
  | [], _ => rfl
  | b :: t, h => by
    have hb : b ≠ 32 := fun e => h (by rw [e]; exact List.mem_cons_self ..)
    have ih := first_free t (fun e => h (List.mem_cons_of_mem _ e))
    unfold firstO at *
    rw [List.takeWhile_cons, if_pos (by simp [hb]), List.length_cons, ih]; rfl
theorem first_app : ∀ l w : List UInt8, firstO (l ++ 32 :: w) = firstO l
  | [], w => by simp [firstO]
  | b :: t, w => by
    have ih := first_app t w
    unfold firstO at *
    rw [List.cons_append, List.takeWhile_cons, List.takeWhile_cons]
    split
    · simp [ih]
    · rfl
theorem first_in : ∀ (l : List UInt8) (j : Nat), j < firstO l → ∃ h : j < l.length, l[j] ≠ 32
  | [], j, h => by simp [firstO] at h
  | b :: t, j, h => by
    unfold firstO at h
    rw [List.takeWhile_cons] at h
    by_cases hb : b = 32
    · subst hb; simp at h
    · rw [if_pos (by simp [hb])] at h
      cases j with
      | zero => exact ⟨by simp, hb⟩
      | succ j =>
        obtain ⟨h1, h2⟩ := first_in t j (by unfold firstO; simpa using h)
        exact ⟨by simp; exact h1, by simpa using h2⟩
theorem first_end : ∀ (l : List UInt8) (h : firstO l < l.length), l[firstO l] = 32
  | [], h => by simp at h
  | b :: t, h => by
    by_cases hb : b = 32
    · have : firstO (b :: t) = 0 := by unfold firstO; rw [List.takeWhile_cons]; simp [hb]
      simp only [this]; simpa using hb
    · have e : firstO (b :: t) = firstO t + 1 := by unfold firstO; rw [List.takeWhile_cons]; simp [hb]
      have := first_end t (by rw [e] at h; simpa using h)
      simp only [e]; simpa using this
def TightO (n : Nat) : List (List UInt8) → Prop
  | a :: b :: t => n < a.length + 1 + firstO b ∧ TightO n (b :: t)
  | _ => True
theorem tight_at (n : Nat) : ∀ (L : List (List UInt8)), TightO n L → ∀ i (h : i + 1 < L.length), n < (L[i]).length + 1 + firstO L[i + 1]
  | [], _, i, h => by simp at h
  | [a], _, i, h => by simp at h
  | a :: b :: t, hT, i, h => by
    cases i with
    | zero => exact hT.1
    | succ i => exact tight_at n (b :: t) hT.2 i (by simpa using h)
theorem tight_snoc (n : Nat) : ∀ (L : List (List UInt8)) (a b : List UInt8), TightO n (L ++ [a]) → n < a.length + 1 + firstO b → TightO n (L ++ [a] ++ [b])
  | [], a, b, _, h => ⟨h, trivial⟩
  | [x], a, b, hT, h => ⟨hT.1, h, trivial⟩
  | x :: y :: t, a, b, hT, h => ⟨hT.1, tight_snoc n (y :: t) a b hT.2 h⟩
theorem tight_last (n : Nat) : ∀ (L : List (List UInt8)) (a b : List UInt8), TightO n (L ++ [a]) → firstO b = firstO a → TightO n (L ++ [b])
  | [], a, b, _, h => trivial
  | [x], a, b, hT, h => ⟨by rw [h]; exact hT.1, trivial⟩
  | x :: y :: t, a, b, hT, h => ⟨hT.1, tight_last n (y :: t) a b hT.2 h⟩
theorem join_last : ∀ (L : List (List UInt8)) (a w : List UInt8), joinO (L ++ [a ++ 32 :: w]) = joinO (L ++ [a]) ++ 32 :: w
  | [], a, w => rfl
  | x :: t, a, w => by
    rw [List.cons_append, List.cons_append, join_cons _ _ (by simp), join_cons _ _ (by simp), join_last t a w]; simp
/-- What holds of the lines of words that have room each. -/
structure FitsO (n : Nat) (L : List (List UInt8)) (ws : List (List UInt8)) : Prop where
  ne : ∀ x ∈ L, x ≠ [] ∧ x.length ≤ n
  tight : TightO n L
  join : joinO L = joinO ws
theorem fold_fitsO (n : Nat) : ∀ (ws pre : List (List UInt8)) (st : List (List UInt8) × List UInt8), (∀ w ∈ ws, w ≠ [] ∧ w.length ≤ n ∧ (32 : UInt8) ∉ w) → pre ≠ [] → FitsO n (st.1 ++ [st.2]) pre →
    FitsO n ((foldO n ws st).1 ++ [(foldO n ws st).2]) (pre ++ ws)
  | [], pre, st, _, _, h => by simpa [foldO] using h
  | w :: ws, pre, st, hw, hp, h => by
    obtain ⟨w1, w2, w3⟩ := hw w (List.mem_cons_self ..)
    have hl := h.ne st.2 (by simp)
    have key : FitsO n ((putO n st w).1 ++ [(putO n st w).2]) (pre ++ [w]) := by
      unfold putO
      by_cases hf : st.2 ≠ [] ∧ st.2.length + 1 + w.length ≤ n
      · rw [if_pos hf]
        refine ⟨fun x hx => ?_, ?_, ?_⟩
        · rcases List.mem_append.1 hx with hx | hx
          · exact h.ne x (List.mem_append_left _ hx)
          · rw [List.mem_singleton.1 hx]; exact ⟨by simp, by have := hf.2; simp; omega⟩
        · exact tight_last n st.1 st.2 _ h.tight (first_app _ _)
        · show joinO (st.1 ++ [st.2 ++ 32 :: w]) = _
          rw [join_last, h.join, join_snoc _ _ hp]
      · rw [if_neg hf, if_pos hl.1, chop_end w2]
        have hn : n < st.2.length + 1 + w.length := Nat.lt_of_not_le fun hc => hf ⟨hl.1, hc⟩
        refine ⟨fun x hx => ?_, ?_, ?_⟩
        · simp only [List.append_nil] at hx
          rcases List.mem_append.1 hx with hx | hx
          · exact h.ne x hx
          · rw [List.mem_singleton.1 hx]; exact ⟨w1, w2⟩
        · simp only [List.append_nil]
          exact tight_snoc n st.1 st.2 w h.tight (by rw [first_free w w3]; exact hn)
        · simp only [List.append_nil]
          show joinO (st.1 ++ [st.2] ++ [w]) = _
          rw [join_snoc _ _ (by simp), h.join, join_snoc _ _ hp]
    have := fold_fitsO n ws (pre ++ [w]) (putO n st w) (fun x hx => hw x (List.mem_cons_of_mem _ hx)) (by simp) key
    rw [List.append_assoc] at this
    exact this
theorem par_fitsO (n : Nat) (ws : List (List UInt8)) (hw : ∀ w ∈ ws, w ≠ [] ∧ w.length ≤ n ∧ (32 : UInt8) ∉ w) (hne : ws ≠ []) : FitsO n (parO n ws) ws := by
  cases ws with
  | nil => exact absurd rfl hne
  | cons w t =>
    obtain ⟨w1, w2, w3⟩ := hw w (List.mem_cons_self ..)
    have e : putO n ([], []) w = ([], w) := by unfold putO; rw [if_neg (fun h => h.1 rfl), if_neg (fun h => h rfl), chop_end w2]; rfl
    have := fold_fitsO n t [w] ([], w) (fun x hx => hw x (List.mem_cons_of_mem _ hx)) (by simp) ⟨fun x hx => by rw [List.mem_singleton.1 hx]; exact ⟨w1, w2⟩, trivial, rfl⟩
    unfold parO
    show FitsO n ((foldO n t (putO n ([], []) w)).1 ++ [(foldO n t (putO n ([], []) w)).2]) _
    rw [e]; exact this
/-- OutFits' lines. -/
theorem wrap_fits (n : Nat) (ws : List (List UInt8)) (hw : ∀ w ∈ ws, w ≠ [] ∧ w.length ≤ n ∧ (32 : UInt8) ∉ w ∧ (10 : UInt8) ∉ w) : FitsO n (wrapO n (joinO ws)) ws := by
  by_cases h0 : ws = []
  · subst h0
    have : wrapO n (joinO []) = [] := by unfold wrapO; show (linesO []).flatMap _ = _; rw [lines_nil]; rfl
    rw [this]
    exact ⟨fun x hx => (by simp at hx), trivial, rfl⟩
  · have hg : GoodW ws := fun w h => ⟨(hw w h).1, (hw w h).2.2.1⟩
    have hne := join_ne hg h0
    have h10 : (10 : UInt8) ∉ joinO ws := by
      clear hg hne h0
      induction ws with
      | nil => simp [joinO]
      | cons a t ih =>
        by_cases ht : t = []
        · subst ht; rw [join_one]; exact (hw a (List.mem_cons_self ..)).2.2.2
        · rw [join_cons a t ht]
          simp
          exact ⟨(hw a (List.mem_cons_self ..)).2.2.2, ih fun x hx => hw x (List.mem_cons_of_mem _ hx)⟩
    unfold wrapO
    rw [lines_last _ h10 hne, List.flatMap_singleton, words_join ws hg]
    exact par_fitsO n ws (fun w h => ⟨(hw w h).1, (hw w h).2.1, (hw w h).2.2.1⟩) h0
end Go.Proofs.YtfnadieccdgnnaaDoor
