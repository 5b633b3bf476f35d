/- The plain law of package lex: what the tokens of a list of bytes are. No program in sight. -/
import Derived.Test.YtmelilppeikdiaaDoorKey2
import Derived.Test.YtmelilppeikdiaaDoorNumPlain
namespace Go.Proofs.YtmelilppeikdiaaDoor
open Go.RowKit Go.PlainAid

/-- A byte as a number. -/
def iv (b : UInt8) : Int := (b.toNat : Int)
theorem iv_bd (b : UInt8) : 0 ≤ iv b ∧ iv b ≤ 255 := by unfold iv; have := b.toNat_lt; omega
/-- The bytes from a place on. -/
def sfx (s : ByteArray) (k : Nat) : List UInt8 := s.data.toList.drop k
/-- The first byte of a list; 0: none. -/
def hd (l : List UInt8) : Int := match l with | [] => 0 | b :: _ => iv b
theorem sfx_cons {s : ByteArray} {k : Nat} (h : k < s.size) : ∃ b, sfx s k = b :: sfx s (k + 1) ∧ iv b = bt s k := by
  have hl : k < s.data.toList.length := by simpa using h
  exact ⟨s.data.toList[k], List.drop_eq_getElem_cons hl, (bt_at' s k hl).symm⟩
theorem sfx_nil {s : ByteArray} {k : Nat} (h : s.size ≤ k) : sfx s k = [] := List.drop_eq_nil_of_le (by simpa using h)
theorem sfx_len (s : ByteArray) (k : Nat) : (sfx s k).length = s.size - k := by unfold sfx; simp
theorem sfx_drop (s : ByteArray) (k n : Nat) : (sfx s k).drop n = sfx s (k + n) := by unfold sfx; rw [List.drop_drop]
theorem hd_sfx (s : ByteArray) (k : Nat) : hd (sfx s k) = bt s k := by
  by_cases h : k < s.size
  · obtain ⟨b, e, hb⟩ := sfx_cons h
    rw [e]; exact hb
  · rw [sfx_nil (by omega), bt_end s (by omega)]; rfl
theorem ext_sfx (s : ByteArray) (i n : Nat) : s.extract i (i + n) = mkB ((sfx s i).take n) := by
  rw [Lib.extract_eq]; unfold mkB sfx; simp

/-- A place's line and column. -/
def ln (s : ByteArray) : Nat → Int
  | 0 => 1
  | k + 1 => if bt s k = 10 then ln s k + 1 else ln s k
def cl (s : ByteArray) : Nat → Int
  | 0 => 1
  | k + 1 => if bt s k = 10 then 1 else cl s k + 1
theorem ln_bd (s : ByteArray) (k : Nat) : 1 ≤ ln s k ∧ ln s k ≤ k + 1 := by
  induction k with
  | zero => simp [ln]
  | succ k ih => rw [ln]; split <;> omega
theorem cl_bd (s : ByteArray) (k : Nat) : 1 ≤ cl s k ∧ cl s k ≤ k + 1 := by
  induction k with
  | zero => simp [cl]
  | succ k ih => rw [cl]; split <;> omega

def cMay (c : Int) : Bool := decide (32 ≤ c ∧ c ≤ 126) || decide (c = 10) || decide (c = 9)
def cSaid (c : Int) : Bool := decide (32 ≤ c ∧ c ≤ 126)
def cBlank (c : Int) : Bool := decide (c = 32) || decide (c = 9) || decide (c = 10)
def cMark (c : Int) : Bool := cSaid c || decide (c = 9)
def cName (c : Int) : Bool := smallB c || digitB c || decide (c = 95)

/-- How many bytes of a sort stand at the beginning. -/
def runL (p : Int → Bool) : List UInt8 → Nat
  | [] => 0
  | b :: t => if p (iv b) then runL p t + 1 else 0
theorem runL_le (p : Int → Bool) (l : List UInt8) : runL p l ≤ l.length := by
  induction l with
  | nil => simp [runL]
  | cons b t ih => rw [runL]; split <;> simp <;> omega
theorem runL_end (p : Int → Bool) : ∀ (l : List UInt8), runL p l < l.length → p (hd (l.drop (runL p l))) = false
  | [], h => by simp [runL] at h
  | b :: t, h => by
    rw [runL] at h ⊢
    by_cases hb : p (iv b) = true
    · rw [if_pos hb] at h ⊢; simp only [List.drop_succ_cons]; exact runL_end p t (by simpa using h)
    · rw [if_neg hb]; show p (iv b) = false; simpa using hb

def gapR (b : UInt8) (t : List UInt8) (rm : Bool) : Bool := if iv b = 47 ∧ hd t = 47 then true else if iv b = 10 then false else rm
/-- What parts tokens: how many bytes, and whether all may be. -/
def gapL : List UInt8 → Bool → Nat × Bool
  | [], _ => (0, true)
  | b :: t, rm =>
    if cMay (iv b) = false then (0, false)
    else if gapR b t rm = false ∧ cBlank (iv b) = false then (0, true) else ((gapL t (gapR b t rm)).1 + 1, (gapL t (gapR b t rm)).2)
theorem gapL_le (l : List UInt8) : ∀ rm, (gapL l rm).1 ≤ l.length := by
  induction l with
  | nil => intro rm; simp [gapL]
  | cons b t ih =>
    intro rm
    rw [gapL]
    split
    · simp
    · split
      · simp
      · have := ih (gapR b t rm)
        simp only [List.length_cons]; omega

/-- A token that a list of bytes begins with: its kind, text and number; how many bytes it has; what is wrong, and how many bytes behind its beginning. -/
structure TK where
  kind : Int
  text : List UInt8
  num : Int
  len : Nat
  err : Int
  off : Nat

/-- The rest of a text behind its first quote; j: how many bytes of it stand ahead, out: what they say. -/
def textL : List UInt8 → List UInt8 → Nat → TK
  | [], _, _ => ⟨3, [], 0, 0, 2, 0⟩
  | b :: t, out, j =>
    if iv b = 10 then ⟨3, [], 0, 0, 2, 0⟩
    else if iv b = 34 then (if 1024 < out.length then ⟨3, [], 0, 0, 3, 0⟩ else ⟨3, out, 0, j + 1, 0, 0⟩)
    else if cSaid (iv b) = false then ⟨3, [], 0, 0, 13, j⟩
    else if iv b = 92 then
      match t with
      | [] => ⟨3, [], 0, 0, 4, j⟩
      | c :: t' => if iv c = 110 then textL t' (out ++ [10]) (j + 2) else if iv c = 34 ∨ iv c = 92 then textL t' (out ++ [c]) (j + 2) else ⟨3, [], 0, 0, 4, j⟩
    else textL t (out ++ [b]) (j + 1)

/-- What stands behind a backslash. -/
def textM (t out : List UInt8) (j : Nat) : TK := match t with
  | [] => ⟨3, [], 0, 0, 4, j⟩
  | c :: t' => if iv c = 110 then textL t' (out ++ [10]) (j + 2) else if iv c = 34 ∨ iv c = 92 then textL t' (out ++ [c]) (j + 2) else ⟨3, [], 0, 0, 4, j⟩
theorem textL_cons (b : UInt8) (t out : List UInt8) (j : Nat) : textL (b :: t) out j =
    if iv b = 10 then ⟨3, [], 0, 0, 2, 0⟩
    else if iv b = 34 then (if 1024 < out.length then ⟨3, [], 0, 0, 3, 0⟩ else ⟨3, out, 0, j + 1, 0, 0⟩)
    else if cSaid (iv b) = false then ⟨3, [], 0, 0, 13, j⟩
    else if iv b = 92 then textM t out j
    else textL t (out ++ [b]) (j + 1) := by
  cases t <;> (rw [textL.eq_def]; rfl)
theorem textL_nil (out : List UInt8) (j : Nat) : textL [] out j = ⟨3, [], 0, 0, 2, 0⟩ := by rw [textL.eq_def]

/-- A sign's length; 0: none. -/
def signs1 : List Int := [40, 41, 123, 125, 44, 59, 46, 124, 47, 43, 45, 42, 37, 61, 60, 62]
def signL (l : List UInt8) : Nat :=
  if hd (l.drop 1) = 61 ∧ (hd l = 61 ∨ hd l = 33 ∨ hd l = 60 ∨ hd l = 62) then 2 else if hd l ∈ signs1 then 1 else 0

/-- A number, a word, a sign at the beginning. -/
def numT (l : List UInt8) : TK :=
  if (smallB (hd (l.drop (runL digitB l))) || greatB (hd (l.drop (runL digitB l))) || decide (hd (l.drop (runL digitB l)) = 95)) || (decide (hd l = 48) && decide (1 < runL digitB l)) then ⟨2, [], 0, runL digitB l, 4, 0⟩
  else ⟨2, [], numN (mkB (l.take (runL digitB l))) 32767, runL digitB l, numE (mkB (l.take (runL digitB l))) 32767, 0⟩
def wordT (l : List UInt8) : TK :=
  if keyL (l.take (runL cName l)) = true then ⟨4, l.take (runL cName l), 0, runL cName l, 0, 0⟩
  else if 24 < runL cName l then ⟨1, l.take (runL cName l), 0, runL cName l, 9, 0⟩ else ⟨1, l.take (runL cName l), 0, runL cName l, 0, 0⟩
def signT (l : List UInt8) : TK := if signL l = 0 then ⟨0, [], 0, 0, 13, 0⟩ else ⟨5, l.take (signL l), 0, signL l, 0, 0⟩
/-- The token that a list of bytes begins with. -/
def oneL (l : List UInt8) : TK :=
  if hd l = 34 then textL (l.drop 1) [] 1
  else if digitB (hd l) = true then numT l
  else if smallB (hd l) = true then wordT l
  else signT l

theorem textL_len : ∀ (l out : List UInt8) (j : Nat), (textL l out j).err = 0 → j < (textL l out j).len ∧ (textL l out j).len ≤ j + l.length
  | [], out, j => by intro h; simp [textL_nil] at h
  | b :: t, out, j => by
    intro h
    rw [textL_cons] at h ⊢
    by_cases h1 : iv b = 10
    · rw [if_pos h1] at h; simp at h
    rw [if_neg h1] at h ⊢
    by_cases h2 : iv b = 34
    · rw [if_pos h2] at h ⊢
      by_cases h3 : 1024 < out.length
      · rw [if_pos h3] at h; simp at h
      · rw [if_neg h3]; simp
    rw [if_neg h2] at h ⊢
    by_cases h3 : cSaid (iv b) = false
    · rw [if_pos h3] at h; simp at h
    rw [if_neg h3] at h ⊢
    by_cases h4 : iv b = 92
    · rw [if_pos h4] at h ⊢
      cases t with
      | nil => simp [textM] at h
      | cons c t' =>
        rw [textM] at h ⊢
        by_cases h5 : iv c = 110
        · rw [if_pos h5] at h ⊢; have := textL_len t' _ _ h; simp only [List.length_cons]; omega
        · rw [if_neg h5] at h ⊢
          by_cases h6 : iv c = 34 ∨ iv c = 92
          · rw [if_pos h6] at h ⊢; have := textL_len t' _ _ h; simp only [List.length_cons]; omega
          · rw [if_neg h6] at h; simp at h
    · rw [if_neg h4] at h ⊢; have := textL_len t _ _ h; simp only [List.length_cons]; omega

theorem signL_le {l : List UInt8} : signL l ≤ l.length := by
  unfold signL
  split
  · rename_i h
    match l, h with
    | [], h => simp [hd] at h
    | [a], h => simp [hd] at h
    | a :: b :: t, _ => simp
  · split
    · rename_i h
      match l, h with
      | [], h => simp [hd, signs1] at h
      | a :: t, _ => simp
    · omega

/-- A token without an error has bytes, and no more than there are. -/
theorem oneL_len (l : List UInt8) (hz : l ≠ []) (h : (oneL l).err = 0) : 0 < (oneL l).len ∧ (oneL l).len ≤ l.length := by
  obtain ⟨b, t, rfl⟩ : ∃ b t, l = b :: t := by
    cases l with
    | nil => exact absurd rfl hz
    | cons b t => exact ⟨b, t, rfl⟩
  unfold oneL at h ⊢
  by_cases h1 : hd (b :: t) = 34
  · rw [if_pos h1] at h ⊢
    have := textL_len _ _ _ h
    simp only [List.drop_succ_cons, List.drop_zero, List.length_cons] at this ⊢
    omega
  rw [if_neg h1] at h ⊢
  by_cases h2 : digitB (hd (b :: t)) = true
  · rw [if_pos h2] at h ⊢
    have hr : 0 < runL digitB (b :: t) := by rw [runL, if_pos (show digitB (iv b) = true from h2)]; omega
    have hl := runL_le digitB (b :: t)
    unfold numT
    split
    · exact ⟨hr, hl⟩
    · exact ⟨hr, hl⟩
  rw [if_neg h2] at h ⊢
  by_cases h3 : smallB (hd (b :: t)) = true
  · rw [if_pos h3] at h ⊢
    have hc : cName (iv b) = true := by
      change smallB (iv b) = true at h3
      simp [cName, h3]
    have hr : 0 < runL cName (b :: t) := by rw [runL, if_pos hc]; omega
    have hl := runL_le cName (b :: t)
    unfold wordT
    split
    · exact ⟨hr, hl⟩
    · split
      · exact ⟨hr, hl⟩
      · exact ⟨hr, hl⟩
  rw [if_neg h3] at h ⊢
  unfold signT at h ⊢
  by_cases h4 : signL (b :: t) = 0
  · rw [if_pos h4] at h; simp at h
  · rw [if_neg h4]; exact ⟨by show 0 < signL (b :: t); omega, signL_le⟩
end Go.Proofs.YtmelilppeikdiaaDoor
