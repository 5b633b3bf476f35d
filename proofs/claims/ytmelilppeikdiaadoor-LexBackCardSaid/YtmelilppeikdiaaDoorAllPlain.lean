/- The plain law of lex.All: the tokens of a whole source, or the first error. No program in sight. -/
import Derived.Test.YtmelilppeikdiaaDoorLexPlain2
namespace Go.Proofs.YtmelilppeikdiaaDoor
open Go.RowKit Go.PlainAid

/-- A token at its place. -/
structure TT where
  t : TK
  l : Int
  c : Int
/-- What All answers. -/
structure AR where
  toks : List TT
  err : Int
  fl : Int
  fc : Int
def endT : TK := ⟨0, [], 0, 0, 0, 0⟩

def allA (s : ByteArray) : Nat → Nat → List TT → AR
  | 0, _, _ => ⟨[], 0, 0, 0⟩
  | f + 1, k, out =>
    if (gapL (sfx s k) false).2 = false then ⟨[], 13, ln s (k + (gapL (sfx s k) false).1), cl s (k + (gapL (sfx s k) false).1)⟩
    else if s.size ≤ k + (gapL (sfx s k) false).1 then ⟨out ++ [⟨endT, ln s (k + (gapL (sfx s k) false).1), cl s (k + (gapL (sfx s k) false).1)⟩], 0, 0, 0⟩
    else if (oneL (sfx s (k + (gapL (sfx s k) false).1))).err ≠ 0 then ⟨[], (oneL (sfx s (k + (gapL (sfx s k) false).1))).err, ln s (k + (gapL (sfx s k) false).1 + (oneL (sfx s (k + (gapL (sfx s k) false).1))).off), cl s (k + (gapL (sfx s k) false).1 + (oneL (sfx s (k + (gapL (sfx s k) false).1))).off)⟩
    else if out.length = 16384 then ⟨[], 7, ln s (k + (gapL (sfx s k) false).1), cl s (k + (gapL (sfx s k) false).1)⟩
    else allA s f (k + (gapL (sfx s k) false).1 + (oneL (sfx s (k + (gapL (sfx s k) false).1))).len) (out ++ [⟨oneL (sfx s (k + (gapL (sfx s k) false).1)), ln s (k + (gapL (sfx s k) false).1), cl s (k + (gapL (sfx s k) false).1)⟩])

/-- The answer from a place q on, behind what parts tokens; ok: that may all be. -/
def restA (s : ByteArray) (f q : Nat) (ok : Bool) (out : List TT) : AR :=
  if ok = false then ⟨[], 13, ln s q, cl s q⟩
  else if s.size ≤ q then ⟨out ++ [⟨endT, ln s q, cl s q⟩], 0, 0, 0⟩
  else if (oneL (sfx s q)).err ≠ 0 then ⟨[], (oneL (sfx s q)).err, ln s (q + (oneL (sfx s q)).off), cl s (q + (oneL (sfx s q)).off)⟩
  else if out.length = 16384 then ⟨[], 7, ln s q, cl s q⟩
  else allA s f (q + (oneL (sfx s q)).len) (out ++ [⟨oneL (sfx s q), ln s q, cl s q⟩])
theorem allA_succ (s : ByteArray) (f k : Nat) (out : List TT) : allA s (f + 1) k out = restA s f (k + (gapL (sfx s k) false).1) (gapL (sfx s k) false).2 out := rfl

def allR (s : ByteArray) : AR := if 65536 < s.size then ⟨[], 3, 1, 1⟩ else allA s (s.size + 1) 0 []

/-- A byte that may not be is no token. -/
theorem one_bad (l : List UInt8) (h : cMay (hd l) = false) : (oneL l).err = 13 ∧ (oneL l).off = 0 := by
  simp only [cMay, Bool.or_eq_false_iff, decide_eq_false_iff_not] at h
  have h1 : ¬ hd l ∈ signs1 := by
    intro hm
    simp only [signs1, List.mem_cons, List.not_mem_nil, or_false] at hm
    omega
  have hs : signL l = 0 := by
    unfold signL
    rw [if_neg (by omega), if_neg h1]
  unfold oneL
  rw [if_neg (by omega), if_neg (by simp only [digitB, decide_eq_true_eq]; omega), if_neg (by simp only [smallB, decide_eq_true_eq]; omega)]
  unfold signT
  rw [if_pos hs]
  exact ⟨rfl, rfl⟩
/-- Where the gap is in fault, no token stands. -/
theorem rest_bad (s : ByteArray) (f q : Nat) (ok : Bool) (out : List TT) (h : ok = false → q < s.size ∧ cMay (bt s q) = false) (hq : ok = false ∨ q < s.size) (he : ok = false ∨ (oneL (sfx s q)).err ≠ 0) :
    q < s.size ∧ (oneL (sfx s q)).err ≠ 0 ∧ restA s f q ok out = ⟨[], (oneL (sfx s q)).err, ln s (q + (oneL (sfx s q)).off), cl s (q + (oneL (sfx s q)).off)⟩ := by
  cases ok with
  | false =>
    have := h rfl
    have hb := one_bad (sfx s q) (by rw [hd_sfx]; exact this.2)
    refine ⟨this.1, by omega, ?_⟩
    unfold restA
    rw [if_pos rfl, hb.1, hb.2]; rfl
  | true =>
    have hq' : q < s.size := by simpa using hq
    have he' : (oneL (sfx s q)).err ≠ 0 := by simpa using he
    refine ⟨hq', he', ?_⟩
    unfold restA
    rw [if_neg (by simp), if_neg (by omega), if_pos he']
theorem gap_fault_s (s : ByteArray) (k : Nat) (h : (gapL (sfx s k) false).2 = false) : k + (gapL (sfx s k) false).1 < s.size ∧ cMay (bt s (k + (gapL (sfx s k) false).1)) = false := by
  have := gap_fault (sfx s k) false h
  rw [sfx_drop, hd_sfx] at this
  refine ⟨?_, this.2⟩
  have h1 := this.1
  by_cases hlt : k + (gapL (sfx s k) false).1 < s.size
  · exact hlt
  · exact absurd (sfx_nil (by omega)) h1
theorem rest_end (s : ByteArray) (f q : Nat) (out : List TT) (h : s.size ≤ q) : restA s f q true out = ⟨out ++ [⟨endT, ln s q, cl s q⟩], 0, 0, 0⟩ := by
  unfold restA; rw [if_neg (by simp), if_pos h]
theorem rest_many (s : ByteArray) (f q : Nat) (out : List TT) (h : q < s.size) (he : (oneL (sfx s q)).err = 0) (hn : out.length = 16384) : restA s f q true out = ⟨[], 7, ln s q, cl s q⟩ := by
  unfold restA; rw [if_neg (by simp), if_neg (by omega), if_neg (by simp [he]), if_pos hn]
theorem rest_more (s : ByteArray) (f q : Nat) (out : List TT) (h : q < s.size) (he : (oneL (sfx s q)).err = 0) (hn : out.length ≠ 16384) : restA s f q true out = allA s f (q + (oneL (sfx s q)).len) (out ++ [⟨oneL (sfx s q), ln s q, cl s q⟩]) := by
  unfold restA; rw [if_neg (by simp), if_neg (by omega), if_neg (by simp [he]), if_neg hn]
end Go.Proofs.YtmelilppeikdiaaDoor
