/- The plain laws of OutAgain and OutFits. -/
import Derived.Test.YtfnadieccdgnnaaDoorOutPlain
namespace Go.Proofs.YtfnadieccdgnnaaDoor
open Go.RowKit Go.PlainAid
set_option linter.unusedVariables false
set_option linter.unusedSimpArgs false

/-- Words with a blank between. -/
def joinO : List (List UInt8) → List UInt8
  | [] => []
  | w :: ws => match ws with
    | [] => w
    | _ => w ++ 32 :: joinO ws
theorem join_one (w : List UInt8) : joinO [w] = w := rfl
theorem join_cons (w : List UInt8) (ws : List (List UInt8)) (h : ws ≠ []) : joinO (w :: ws) = w ++ 32 :: joinO ws := by
  cases ws with
  | nil => exact absurd rfl h
  | cons a t => rfl
theorem join_snoc : ∀ (ws : List (List UInt8)) (w : List UInt8), ws ≠ [] → joinO (ws ++ [w]) = joinO ws ++ 32 :: w
  | [], w, h => absurd rfl h
  | [a], w, _ => rfl
  | a :: b :: t, w, _ => by
    show joinO (a :: (b :: t ++ [w])) = _
    rw [join_cons a _ (by simp), join_snoc (b :: t) w (by simp), join_cons a (b :: t) (by simp)]
    simp
/-- Words that a text may have: not empty, without a blank. -/
def GoodW (ws : List (List UInt8)) : Prop := ∀ w ∈ ws, w ≠ [] ∧ (32 : UInt8) ∉ w
theorem words_join : ∀ ws : List (List UInt8), GoodW ws → wordsO (joinO ws) = ws
  | [], _ => words_nil
  | [w], h => words_last w (h w (by simp)).2 (h w (by simp)).1
  | w :: b :: t, h => by
    rw [join_cons w (b :: t) (by simp), words_blank_end w _ (h w (by simp)).2 (h w (by simp)).1, words_join (b :: t) (fun x hx => h x (List.mem_cons_of_mem _ hx))]
theorem join_ne {ws : List (List UInt8)} (h : GoodW ws) (hw : ws ≠ []) : joinO ws ≠ [] := by
  cases ws with
  | nil => exact absurd rfl hw
  | cons a t =>
    cases t with
    | nil => exact (h a (by simp)).1
    | cons b u => rw [join_cons a _ (by simp)]; simp
/-- Words that fit on one line stand on one. -/
theorem fold_fits (n : Nat) : ∀ (ws pre : List (List UInt8)), joinO pre ≠ [] → pre ≠ [] → (joinO (pre ++ ws)).length ≤ n → foldO n ws ([], joinO pre) = ([], joinO (pre ++ ws))
  | [], pre, _, _, _ => by rw [List.append_nil]; rfl
  | w :: ws, pre, hne, hp, hl => by
    have hj := join_snoc pre w hp
    have e : pre ++ w :: ws = (pre ++ [w]) ++ ws := by simp
    have hlen : (joinO (pre ++ [w])).length ≤ n := by
      have key : ∀ (l : List (List UInt8)) (u : List (List UInt8)), l ≠ [] → (joinO l).length ≤ (joinO (l ++ u)).length := by
        intro l u
        induction l with
        | nil => intro h; exact absurd rfl h
        | cons a t ih =>
          intro _
          cases t with
          | nil =>
            cases u with
            | nil => exact Nat.le_refl _
            | cons c d =>
              show (joinO [a]).length ≤ (joinO (a :: c :: d)).length
              rw [join_cons a (c :: d) (by simp), join_one, List.length_append]; omega
          | cons b v =>
            show _ ≤ (joinO (a :: (b :: v ++ u))).length
            rw [join_cons a _ (by simp), join_cons a _ (by simp)]
            have := ih (by simp)
            rw [List.length_append, List.length_append, List.length_cons, List.length_cons]
            exact Nat.add_le_add_left (Nat.succ_le_succ this) _
      have := key (pre ++ [w]) ws (by simp)
      rw [← e] at this; omega
    have hput : putO n ([], joinO pre) w = ([], joinO (pre ++ [w])) := by
      unfold putO
      have hl2 : (joinO pre).length + 1 + w.length ≤ n := by
        rw [hj] at hlen; simp at hlen; omega
      rw [if_pos ⟨hne, hl2⟩, hj]
    show foldO n ws (putO n ([], joinO pre) w) = _
    rw [hput, e]
    exact fold_fits n ws (pre ++ [w]) (by rw [hj]; simp) (by simp) (by rw [← e]; exact hl)
theorem par_fits (n : Nat) (ws : List (List UInt8)) (hg : GoodW ws) (hw : ws ≠ []) (hl : (joinO ws).length ≤ n) : parO n ws = [joinO ws] := by
  cases ws with
  | nil => exact absurd rfl hw
  | cons w t =>
    have hwl : w.length ≤ n := by
      cases t with
      | nil => exact hl
      | cons b u => rw [join_cons w _ (by simp)] at hl; simp at hl; omega
    have hput : putO n ([], []) w = ([], joinO [w]) := by
      unfold putO
      rw [if_neg (by simp), if_neg (by simp), chop_end hwl]; rfl
    have hf : foldO n (w :: t) ([], []) = ([], joinO ([w] ++ t)) := by
      show foldO n t (putO n ([], []) w) = _
      rw [hput]
      exact fold_fits n t [w] (hg w (by simp)).1 (by simp) hl
    unfold parO
    rw [hf]; rfl

/-- A line that stays as it is when it is wrapped again. -/
def Still (n : Nat) (x : List UInt8) : Prop := parO n (wordsO x) = [x]
theorem still_nil (n : Nat) : Still n [] := by unfold Still; rw [words_nil]; rfl
theorem still_join (n : Nat) (ws : List (List UInt8)) (hg : GoodW ws) (hw : ws ≠ []) (hl : (joinO ws).length ≤ n) : Still n (joinO ws) := by
  unfold Still; rw [words_join ws hg]; exact par_fits n ws hg hw hl

/-- What the lines of a paragraph are: all of good words, none too long; none has a line feed if no word has one. -/
structure LineG (n : Nat) (x : List UInt8) : Prop where
  mk' : ∃ ws, GoodW ws ∧ ws ≠ [] ∧ x = joinO ws
  le : x.length ≤ n
  nl : (10 : UInt8) ∉ x
theorem chop_good (n : Nat) (hn : 0 < n) : ∀ (k : Nat) (w : List UInt8), w.length ≤ k → w ≠ [] → (32 : UInt8) ∉ w → (10 : UInt8) ∉ w → (∀ x ∈ (chopL n w).1, LineG n x) ∧ LineG n (chopL n w).2
  | 0, w, hk, hw, _, _ => absurd (List.length_eq_zero_iff.1 (by omega)) hw
  | k + 1, w, hk, hw, h32, h10 => by
    by_cases h : n < w.length
    · rw [chop_more hn h]
      have ih := chop_good n hn k (w.drop n) (by simp; omega) (fun e => by have := congrArg List.length e; simp at this; omega) (fun e => h32 (List.mem_of_mem_drop e)) (fun e => h10 (List.mem_of_mem_drop e))
      refine ⟨fun x hx => ?_, ih.2⟩
      rcases List.mem_cons.1 hx with e | e
      · rw [e]
        refine ⟨⟨[w.take n], fun y hy => ?_, by simp, rfl⟩, List.length_take_le _ _, fun e => h10 (List.mem_of_mem_take e)⟩
        simp only [List.mem_singleton] at hy
        rw [hy]
        exact ⟨fun e => by have := congrArg List.length e; rw [List.length_take, List.length_nil] at this; omega, fun e => h32 (List.mem_of_mem_take e)⟩
      · exact ih.1 x e
    · rw [chop_end (by omega)]
      exact ⟨fun x hx => by simp at hx, ⟨⟨[w], fun y hy => by simp only [List.mem_singleton] at hy; rw [hy]; exact ⟨hw, h32⟩, by simp, rfl⟩, (by show w.length ≤ n; omega), h10⟩⟩
theorem put_good (n : Nat) (hn : 0 < n) (st : List (List UInt8) × List UInt8) (w : List UInt8) (h1 : ∀ x ∈ st.1, LineG n x) (h2 : st.2 = [] ∨ LineG n st.2) (hw : w ≠ []) (h32 : (32 : UInt8) ∉ w) (h10 : (10 : UInt8) ∉ w) :
    (∀ x ∈ (putO n st w).1, LineG n x) ∧ LineG n (putO n st w).2 := by
  have hc := chop_good n hn _ w (Nat.le_refl _) hw h32 h10
  unfold putO
  by_cases hf : st.2 ≠ [] ∧ st.2.length + 1 + w.length ≤ n
  · rw [if_pos hf]
    refine ⟨h1, ?_⟩
    rcases h2 with e | ⟨⟨ws, hg, hws, he⟩, hle, hnl⟩
    · exact absurd e hf.1
    · refine ⟨⟨ws ++ [w], fun y hy => ?_, by simp, by rw [join_snoc ws w hws, ← he]⟩, by simp; omega, fun e => ?_⟩
      · rcases List.mem_append.1 hy with h | h
        · exact hg y h
        · simp only [List.mem_singleton] at h; rw [h]; exact ⟨hw, h32⟩
      · rcases List.mem_append.1 e with h | h
        · exact hnl h
        · rcases List.mem_cons.1 h with h | h
          · exact absurd h (by decide)
          · exact h10 h
  · rw [if_neg hf]
    refine ⟨fun x hx => ?_, hc.2⟩
    rcases List.mem_append.1 hx with h | h
    · split at h
      · rename_i hne
        rcases List.mem_append.1 h with h | h
        · exact h1 x h
        · simp only [List.mem_singleton] at h
          rw [h]
          rcases h2 with e | e
          · exact absurd e hne
          · exact e
      · exact h1 x h
    · exact hc.1 x h
theorem fold_good (n : Nat) (hn : 0 < n) : ∀ (ws : List (List UInt8)) (st : List (List UInt8) × List UInt8), (∀ x ∈ st.1, LineG n x) → (st.2 = [] ∨ LineG n st.2) → (∀ w ∈ ws, w ≠ [] ∧ (32 : UInt8) ∉ w ∧ (10 : UInt8) ∉ w) →
    (∀ x ∈ (foldO n ws st).1, LineG n x) ∧ ((foldO n ws st).2 = [] ∨ LineG n (foldO n ws st).2)
  | [], st, h1, h2, _ => ⟨h1, h2⟩
  | w :: ws, st, h1, h2, hw => by
    have a := hw w (List.mem_cons_self ..)
    have hp := put_good n hn st w h1 h2 a.1 a.2.1 a.2.2
    exact fold_good n hn ws _ hp.1 (.inr hp.2) (fun x hx => hw x (List.mem_cons_of_mem _ hx))
theorem line_still {n : Nat} {x : List UInt8} (h : x = [] ∨ LineG n x) : Still n x ∧ (10 : UInt8) ∉ x := by
  rcases h with e | h
  · rw [e]; exact ⟨still_nil n, by simp⟩
  · obtain ⟨⟨ws, hg, hws, he⟩, hle, hnl⟩ := h
    refine ⟨?_, hnl⟩
    rw [he] at hle ⊢
    exact still_join n ws hg hws hle
theorem spl_sub (c d : UInt8) : ∀ (l cur : List UInt8), d ∉ l → d ∉ cur → ∀ x ∈ spl c l cur, d ∉ x
  | [], cur, _, h, x, hx => by simp [spl] at hx; rw [hx]; exact h
  | b :: t, cur, hl, h, x, hx => by
    have ht : d ∉ t := fun e => hl (List.mem_cons_of_mem _ e)
    rw [spl] at hx
    split at hx
    · rcases List.mem_cons.1 hx with e | e
      · rw [e]; exact h
      · exact spl_sub c d t [] ht (by simp) x e
    · exact spl_sub c d t (cur ++ [b]) ht (by simp [h]; exact fun e => hl (by rw [e]; exact List.mem_cons_self ..)) x hx
theorem par_still (n : Nat) (hn : 0 < n) (l : List UInt8) (hl : (10 : UInt8) ∉ l) : ∀ x ∈ parO n (wordsO l), Still n x ∧ (10 : UInt8) ∉ x := by
  have hw : ∀ w ∈ wordsO l, w ≠ [] ∧ (32 : UInt8) ∉ w ∧ (10 : UInt8) ∉ w := fun w h => ⟨words_ne l w h, words_free l w h, spl_sub 32 10 l [] hl (by simp) w (List.mem_filter.1 h).1⟩
  have hf := fold_good n hn (wordsO l) ([], []) (by simp) (.inl rfl) hw
  intro x hx
  unfold parO at hx
  rcases List.mem_append.1 hx with h | h
  · exact line_still (.inr (hf.1 x h))
  · simp only [List.mem_singleton] at h
    rw [h]; exact line_still hf.2
theorem lines_free (l : List UInt8) : ∀ x ∈ linesO l, (10 : UInt8) ∉ x := by
  intro x hx
  unfold linesO at hx
  split at hx
  · exact spl_free 10 l [] (by simp) x ((List.dropLast_sublist _).subset hx)
  · exact spl_free 10 l [] (by simp) x hx
theorem wrap_still (n : Nat) (hn : 0 < n) (l : List UInt8) : ∀ x ∈ wrapO n l, Still n x ∧ (10 : UInt8) ∉ x := by
  intro x hx
  obtain ⟨y, hy, h⟩ := List.mem_flatMap.1 hx
  exact par_still n hn y (lines_free l y hy) x h
/-- Lines with a line feed behind each, wrapped again. -/
def feedO (L : List (List UInt8)) : List UInt8 := L.flatMap fun x => x ++ [10]
theorem lines_feeds : ∀ L : List (List UInt8), (∀ x ∈ L, (10 : UInt8) ∉ x) → linesO (feedO L) = L
  | [], _ => lines_nil
  | x :: L, h => by
    have e : feedO (x :: L) = x ++ 10 :: feedO L := by simp [feedO]
    rw [e, lines_feed x _ (h x (List.mem_cons_self ..)), lines_feeds L (fun y hy => h y (List.mem_cons_of_mem _ hy))]
theorem wrap_again (n : Nat) (hn : 0 < n) (l : List UInt8) : wrapO n (feedO (wrapO n l)) = wrapO n l := by
  have h := wrap_still n hn l
  generalize wrapO n l = L at h
  unfold wrapO
  rw [lines_feeds L (fun x hx => (h x hx).2)]
  have : ∀ M : List (List UInt8), (∀ x ∈ M, Still n x) → M.flatMap (fun x => parO n (wordsO x)) = M := by
    intro M
    induction M with
    | nil => intro _; rfl
    | cons a t ih =>
      intro hM
      rw [List.flatMap_cons, ih (fun x hx => hM x (List.mem_cons_of_mem _ hx)), hM a (List.mem_cons_self ..)]; rfl
  exact this L (fun x hx => (h x hx).1)

/-! ### More blanks -/
def tripB (b : UInt8) : List UInt8 := if b = 32 then [32, 32, 32] else [b]
def tripO (l : List UInt8) : List UInt8 := l.flatMap tripB
theorem trip_cons (b : UInt8) (t : List UInt8) : tripO (b :: t) = tripB b ++ tripO t := rfl
theorem trip_spl : ∀ (l cur : List UInt8), spl 10 (tripO l) (tripO cur) = (spl 10 l cur).map tripO
  | [], cur => rfl
  | b :: t, cur => by
    have hs : tripO (cur ++ [b]) = tripO cur ++ tripB b := by simp [tripO]
    rw [trip_cons, spl]
    by_cases h10 : b = 10
    · subst h10
      rw [if_pos rfl]
      show spl 10 (10 :: tripO t) (tripO cur) = _
      rw [spl_at, List.map_cons, ← trip_spl t []]; rfl
    · rw [if_neg h10, ← trip_spl t (cur ++ [b]), hs]
      unfold tripB
      split
      · rw [spl_pre 10 [32, 32, 32] _ _ (by decide)]
      · rw [spl_pre 10 [b] _ _ (by simp; exact fun e => h10 e.symm)]
theorem trip_words : ∀ (l cur : List UInt8), (32 : UInt8) ∉ cur → (spl 32 (tripO l) cur).filter (fun w => !w.isEmpty) = (spl 32 l cur).filter (fun w => !w.isEmpty)
  | [], cur, _ => rfl
  | b :: t, cur, hc => by
    rw [trip_cons, spl]
    by_cases h32 : b = 32
    · subst h32
      rw [if_pos rfl]
      show (spl 32 (32 :: 32 :: 32 :: tripO t) cur).filter _ = _
      rw [spl_at, spl_at, spl_at, List.filter_cons, List.filter_cons, List.filter_cons, List.filter_cons, trip_words t [] (by simp)]
      simp
    · have : tripB b = [b] := by unfold tripB; rw [if_neg h32]
      rw [if_neg h32, this, spl_pre 32 [b] _ _ (by simp; exact fun e => h32 e.symm), trip_words t (cur ++ [b]) (by simp [hc]; exact fun e => h32 e.symm)]
theorem trip_nil {l : List UInt8} : tripO l = [] ↔ l = [] := by
  cases l with
  | nil => simp [tripO]
  | cons b t =>
    rw [trip_cons]
    unfold tripB
    split <;> simp
theorem trip_lines (l : List UInt8) : linesO (tripO l) = (linesO l).map tripO := by
  have e := trip_spl l []
  have e0 : tripO [] = [] := rfl
  rw [e0] at e
  unfold linesO
  simp only [e]
  rw [List.getLast_map]
  by_cases h : (spl 10 l []).getLast (spl_ne 10 l []) = []
  · rw [if_pos h, if_pos (trip_nil.2 h), List.map_dropLast]
  · rw [if_neg h, if_neg (fun k => h (trip_nil.1 k))]
theorem wrap_trip (n : Nat) (l : List UInt8) : wrapO n (tripO l) = wrapO n l := by
  unfold wrapO
  rw [trip_lines, List.flatMap_map]
  congr 1
  funext x
  have : wordsO (tripO x) = wordsO x := by unfold wordsO; exact trip_words x [] (by simp)
  rw [this]
end Go.Proofs.YtfnadieccdgnnaaDoor
