/- The plain law of keywords: a text is a keyword if it stands between blanks in the row of all. Lists of bytes, no program in sight. -/
import Derived.Test.YtdommneciojiaaaBase
import Derived.Lib.IndexMore
import Derived.Lib.IndexLaws
namespace Go.Proofs.Ytdommneciojiaaa
open Go.RowKit Go.PlainAid

/-- The words of a row, each ended by a blank; cur: the word that has begun. -/
def cutW : List UInt8 → List UInt8 → List (List UInt8)
  | [], _ => []
  | c :: t, cur => if c = 32 then cur :: cutW t [] else cutW t (cur ++ [c])
/-- The place of a word in a list, counted from n. -/
def idxW : List (List UInt8) → List UInt8 → Nat → Option Nat
  | [], _, _ => none
  | w :: t, s, n => if w = s then some n else idxW t s (n + 1)

theorem idxW_mem : ∀ (l : List (List UInt8)) (s : List UInt8) (n : Nat), (idxW l s n).isSome = decide (s ∈ l)
  | [], s, n => by simp [idxW]
  | w :: t, s, n => by
    rw [idxW]
    by_cases h : w = s
    · rw [if_pos h]; simp [h]
    · rw [if_neg h, idxW_mem t s]; simp [Ne.symm h]

theorem split_first {cur t s b : List UInt8} (h1 : (32 : UInt8) ∉ cur) (h2 : (32 : UInt8) ∉ s) (h : cur ++ 32 :: t = s ++ 32 :: b) : cur = s := by
  induction cur generalizing s with
  | nil =>
    cases s with
    | nil => rfl
    | cons x s => simp at h; exact absurd (h.1 ▸ List.mem_cons_self) h2
  | cons c cur ih =>
    cases s with
    | nil => simp at h; exact absurd (h.1 ▸ List.mem_cons_self) h1
    | cons x s =>
      simp at h
      rw [h.1, ih (fun hm => h1 (List.mem_cons_of_mem _ hm)) (fun hm => h2 (List.mem_cons_of_mem _ hm)) h.2]

theorem cutW_mem (s : List UInt8) (hs : (32 : UInt8) ∉ s) : ∀ (L cur : List UInt8), (32 : UInt8) ∉ cur →
    (s ∈ cutW L cur ↔ (∃ b, cur ++ L = s ++ 32 :: b) ∨ ∃ a b, L = a ++ 32 :: (s ++ 32 :: b))
  | [], cur, hc => by
    simp only [cutW, List.not_mem_nil, List.append_nil, false_iff, not_or]
    refine ⟨?_, ?_⟩
    · rintro ⟨b, h⟩; apply hc; rw [h]; simp
    · rintro ⟨a, b, h⟩; simp at h
  | c :: t, cur, hc => by
    rw [cutW]
    by_cases h32 : c = 32
    · subst h32
      rw [if_pos rfl, List.mem_cons, cutW_mem s hs t [] (by simp)]
      constructor
      · rintro (h | ⟨b, h⟩ | ⟨a, b, h⟩)
        · left; exact ⟨t, by rw [h]⟩
        · right; exact ⟨[], b, by simp at h; rw [h]; rfl⟩
        · right; exact ⟨32 :: a, b, by rw [h]; rfl⟩
      · rintro (⟨b, h⟩ | ⟨a, b, h⟩)
        · left; exact (split_first hc hs h).symm
        · cases a with
          | nil => right; left; exact ⟨b, by simp at h; simpa using h⟩
          | cons x a => right; right; simp at h; exact ⟨a, b, h.2⟩
    · rw [if_neg h32, cutW_mem s hs t (cur ++ [c]) (by simp [hc]; exact fun e => h32 e.symm)]
      constructor
      · rintro (⟨b, h⟩ | ⟨a, b, h⟩)
        · left; exact ⟨b, by simpa using h⟩
        · right; exact ⟨c :: a, b, by rw [h]; rfl⟩
      · rintro (⟨b, h⟩ | ⟨a, b, h⟩)
        · left; exact ⟨b, by simpa using h⟩
        · cases a with
          | nil => simp at h; exact absurd h.1 h32
          | cons x a => right; simp at h; exact ⟨a, b, h.2⟩

theorem index_nonneg (sub : List UInt8) : ∀ l : List UInt8, 0 ≤ Lib.index l sub ↔ ∃ a b, l = a ++ (sub ++ b)
  | [] => by
    rw [Lib.index]
    cases sub with
    | nil => simp
    | cons x s => simp
  | c :: l => by
    rw [Lib.index]
    by_cases h : sub.isPrefixOf (c :: l) = true
    · rw [if_pos h]
      obtain ⟨b, hb⟩ := List.isPrefixOf_iff_prefix.1 h
      simp only [Int.le_refl, true_iff]
      exact ⟨[], b, by simp [hb]⟩
    · rw [if_neg h]
      have ih := index_nonneg sub l
      have step : (∃ a b, c :: l = a ++ (sub ++ b)) ↔ ∃ a b, l = a ++ (sub ++ b) := by
        constructor
        · rintro ⟨a, b, e⟩
          cases a with
          | nil => exact absurd (List.isPrefixOf_iff_prefix.2 ⟨b, by simpa using e.symm⟩) h
          | cons x a => simp at e; exact ⟨a, b, e.2⟩
        · rintro ⟨a, b, e⟩; exact ⟨c :: a, b, by rw [e]; rfl⟩
      rw [step, ← ih]
      split
      · rename_i h1; simp at h1; omega
      · rename_i h1
        constructor
        · intro h2; simp at h1
          by_cases h3 : 0 ≤ Lib.index l sub
          · exact h3
          · exfalso
            have : -1 ≤ Lib.index l sub := Lib.index_ge l sub
            omega
        · intro h2; omega

def kwL : List UInt8 := [32, 115, 116, 111, 114, 121, 32, 98, 121, 32, 114, 101, 108, 101, 97, 115, 101, 32, 109, 97, 120, 32, 115, 116, 97, 114, 116, 32, 102, 108, 97, 103, 32, 112, 114, 111, 112, 32, 103, 108, 111, 98, 97, 108, 32, 114, 111, 111, 109, 32, 116, 104, 105, 110, 103, 32, 105, 110, 32, 118, 101, 114, 98, 32, 109, 101, 116, 97, 32, 111, 110, 32, 98, 101, 102, 111, 114, 101, 32, 97, 102, 116, 101, 114, 32, 105, 102, 32, 102, 117, 110, 99, 32, 100, 97, 101, 109, 111, 110, 32, 116, 101, 120, 116, 32, 119, 111, 114, 100, 115, 32, 97, 100, 106, 115, 32, 105, 115, 32, 101, 120, 105, 116, 32, 116, 111, 32, 101, 108, 115, 101, 32, 115, 97, 121, 32, 108, 101, 116, 32, 115, 101, 116, 32, 117, 110, 115, 101, 116, 32, 109, 111, 118, 101, 32, 114, 101, 109, 111, 118, 101, 32, 119, 104, 105, 108, 101, 32, 101, 97, 99, 104, 32, 114, 101, 116, 117, 114, 110, 32, 115, 116, 111, 112, 32, 119, 105, 110, 32, 108, 111, 115, 101, 32, 97, 119, 97, 114, 100, 32, 104, 97, 108, 116, 32, 116, 114, 97, 118, 101, 108, 32, 108, 111, 111, 107, 32, 108, 105, 115, 116, 32, 111, 114, 32, 97, 110, 100, 32, 110, 111, 116, 32, 104, 97, 115, 32, 112, 97, 114, 101, 110, 116, 32, 99, 104, 105, 108, 100, 32, 110, 101, 120, 116, 32, 114, 97, 110, 100, 111, 109, 32, 116, 105, 116, 108, 101, 32, 104, 101, 114, 101, 32, 112, 108, 97, 121, 101, 114, 32, 110, 111, 117, 110, 32, 115, 101, 99, 111, 110, 100, 32, 110, 117, 109, 98, 101, 114, 32, 115, 99, 111, 114, 101, 32, 97, 110, 121, 32, 109, 97, 110, 121, 32, 100, 105, 114, 32, 110, 111, 114, 116, 104, 32, 115, 111, 117, 116, 104, 32, 101, 97, 115, 116, 32, 119, 101, 115, 116, 32, 110, 111, 114, 116, 104, 101, 97, 115, 116, 32, 110, 111, 114, 116, 104, 119, 101, 115, 116, 32, 115, 111, 117, 116, 104, 101, 97, 115, 116, 32, 115, 111, 117, 116, 104, 119, 101, 115, 116, 32, 117, 112, 32, 100, 111, 119, 110, 32, 111, 117, 116, 32]
def keysL : List UInt8 := [32, 115, 116, 111, 114, 121, 32, 98, 121, 32, 114, 101, 108, 101, 97, 115, 101, 32, 109, 97, 120, 32, 115, 116, 97, 114, 116, 32, 102, 108, 97, 103, 32, 112, 114, 111, 112, 32, 103, 108, 111, 98, 97, 108, 32, 114, 111, 111, 109, 32, 116, 104, 105, 110, 103, 32, 105, 110, 32, 118, 101, 114, 98, 32, 109, 101, 116, 97, 32, 111, 110, 32, 98, 101, 102, 111, 114, 101, 32, 97, 102, 116, 101, 114, 32, 105, 102, 32, 102, 117, 110, 99, 32, 100, 97, 101, 109, 111, 110, 32, 116, 101, 120, 116, 32, 119, 111, 114, 100, 115, 32, 97, 100, 106, 115, 32, 105, 115, 32, 101, 120, 105, 116, 32, 116, 111, 32, 101, 108, 115, 101, 32, 115, 97, 121, 32, 108, 101, 116, 32, 115, 101, 116, 32, 117, 110, 115, 101, 116, 32, 109, 111, 118, 101, 32, 114, 101, 109, 111, 118, 101, 32, 119, 104, 105, 108, 101, 32, 101, 97, 99, 104, 32, 114, 101, 116, 117, 114, 110, 32, 115, 116, 111, 112, 32, 119, 105, 110, 32, 108, 111, 115, 101, 32, 97, 119, 97, 114, 100, 32, 104, 97, 108, 116, 32, 116, 114, 97, 118, 101, 108, 32, 108, 111, 111, 107, 32, 108, 105, 115, 116, 32, 111, 114, 32, 97, 110, 100, 32, 110, 111, 116, 32, 104, 97, 115, 32, 112, 97, 114, 101, 110, 116, 32, 99, 104, 105, 108, 100, 32, 110, 101, 120, 116, 32, 114, 97, 110, 100, 111, 109, 32, 116, 105, 116, 108, 101, 32, 104, 101, 114, 101, 32, 112, 108, 97, 121, 101, 114, 32, 110, 111, 117, 110, 32, 115, 101, 99, 111, 110, 100, 32, 110, 117, 109, 98, 101, 114, 32, 115, 99, 111, 114, 101, 32, 97, 110, 121, 32, 109, 97, 110, 121, 32, 100, 105, 114, 32]
def dirsL : List UInt8 := [32, 110, 111, 114, 116, 104, 32, 115, 111, 117, 116, 104, 32, 101, 97, 115, 116, 32, 119, 101, 115, 116, 32, 110, 111, 114, 116, 104, 101, 97, 115, 116, 32, 110, 111, 114, 116, 104, 119, 101, 115, 116, 32, 115, 111, 117, 116, 104, 101, 97, 115, 116, 32, 115, 111, 117, 116, 104, 119, 101, 115, 116, 32, 117, 112, 32, 100, 111, 119, 110, 32, 105, 110, 32, 111, 117, 116, 32]
/-- All keywords. -/
def lexW : List (List UInt8) := cutW (kwL.drop 1) []
def keysW : List (List UInt8) := cutW (keysL.drop 1) []
def dirsW : List (List UInt8) := cutW (dirsL.drop 1) []
def keyL (l : List UInt8) : Bool := lexW.contains l
/-- A direction's number. -/
def dirL (l : List UInt8) : Int := match idxW dirsW l 0 with
  | some n => n + 1
  | none => 0
theorem keys_sub : (lexW.all fun w => keysW.contains w || dirsW.contains w) = true := by decide +kernel
theorem keys_sup : ((keysW.all fun w => lexW.contains w) && (dirsW.all fun w => lexW.contains w)) = true := by decide +kernel
theorem keys_form : (lexW.all fun w => !w.isEmpty && !w.contains 32 && decide (w.length ≤ 24)) = true := by decide +kernel
theorem kw_head : kwL = 32 :: kwL.drop 1 := by decide +kernel
theorem keyL_ref (l : List UInt8) : ((idxW keysW l 0).isSome || (idxW dirsW l 0).isSome) = keyL l := by
  rw [idxW_mem, idxW_mem, Bool.eq_iff_iff]
  have h1 := List.all_eq_true.1 keys_sub
  have h2 := keys_sup
  rw [Bool.and_eq_true] at h2
  have h3 := List.all_eq_true.1 h2.1
  have h4 := List.all_eq_true.1 h2.2
  unfold keyL
  simp only [Bool.or_eq_true, decide_eq_true_eq]
  constructor
  · rintro (h | h)
    · exact h3 l h
    · exact h4 l h
  · intro h
    have := h1 l (by simpa using h)
    simpa using this
theorem keyL_form {l : List UInt8} (h : keyL l = true) : l ≠ [] ∧ (32 : UInt8) ∉ l ∧ l.length ≤ 24 := by
  have h1 := List.all_eq_true.1 keys_form l (by simpa [keyL] using h)
  simp only [Bool.and_eq_true, Bool.not_eq_true', decide_eq_true_eq] at h1
  refine ⟨fun e => by rw [e] at h1; simp at h1, fun hm => ?_, h1.2⟩
  have := h1.1.2
  simp [hm] at this
/-- Between blanks in the row of all keywords. -/
theorem contains_key (l : List UInt8) (hs : (32 : UInt8) ∉ l) : Lib.contains kwL (32 :: (l ++ [32])) = keyL l := by
  unfold Lib.contains keyL
  rw [Bool.eq_iff_iff]
  simp only [decide_eq_true_eq, List.contains_iff_mem]
  have hk := kw_head
  rw [index_nonneg, lexW, cutW_mem l hs _ [] (by simp)]
  generalize kwL.drop 1 = K at hk ⊢
  rw [hk]
  constructor
  · rintro ⟨a, b, e⟩
    cases a with
    | nil => left; exact ⟨b, by simpa using (List.cons.inj e).2⟩
    | cons x a => right; exact ⟨a, b, by simpa using (List.cons.inj e).2⟩
  · rintro (⟨b, e⟩ | ⟨a, b, e⟩)
    · exact ⟨[], b, by simp at e; simp [e]⟩
    · exact ⟨32 :: a, b, by simp [e]⟩
end Go.Proofs.Ytdommneciojiaaa
