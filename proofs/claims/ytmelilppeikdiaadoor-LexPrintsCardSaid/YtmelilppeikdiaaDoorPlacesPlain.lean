/- The plain law of LexPlaces: tokens rise by their places, an error has a place in the source. -/
import Derived.Test.YtmelilppeikdiaaDoorAllPlain
namespace Go.Proofs.YtmelilppeikdiaaDoor
open Go.RowKit Go.PlainAid
set_option linter.unusedVariables false
set_option linter.unusedSimpArgs false

theorem ln_mono (s : ByteArray) (p q : Nat) (h : p ≤ q) : ln s p ≤ ln s q := by
  induction q with
  | zero => have : p = 0 := by omega
            subst this; omega
  | succ q ih =>
    by_cases e : p = q + 1
    · subst e; omega
    · have := ih (by omega)
      rw [ln]; split <;> omega
def before (x y : TT) : Prop := x.l < y.l ∨ (x.l = y.l ∧ x.c < y.c)
theorem place_lt (s : ByteArray) (p q : Nat) (h : p < q) : ln s p < ln s q ∨ (ln s p = ln s q ∧ cl s p < cl s q) := by
  induction q with
  | zero => omega
  | succ q ih =>
    rw [ln, cl]
    by_cases e : p = q
    · subst e
      split
      · left; omega
      · right; exact ⟨rfl, by omega⟩
    · have := ih (by omega)
      split
      · left; omega
      · rcases this with h | ⟨h1, h2⟩
        · left; exact h
        · right; exact ⟨h1, by omega⟩
theorem textL_kind' (l out : List UInt8) (j : Nat) (hk : ∀ l out j, (textL l out j).kind = 3) : (textL l out j).kind ≠ 0 := by rw [hk]; decide
theorem textL_k3 : ∀ (l out : List UInt8) (j : Nat), (textL l out j).kind = 3
  | [], out, j => by simp [textL_nil]
  | b :: t, out, j => by
    rw [textL_cons]
    split
    · rfl
    split
    · split <;> rfl
    split
    · rfl
    split
    · cases t with
      | nil => rfl
      | cons c t' =>
        rw [textM]
        split
        · exact textL_k3 t' _ _
        · split
          · exact textL_k3 t' _ _
          · rfl
    · exact textL_k3 t _ _
theorem oneL_kind (l : List UInt8) (h : (oneL l).err = 0) : (oneL l).kind ≠ 0 := by
  unfold oneL at h ⊢
  split
  · rw [textL_k3]; decide
  · split
    · unfold numT; split <;> (show (2 : Int) ≠ 0; decide)
    · split
      · unfold wordT; split
        · show (4 : Int) ≠ 0; decide
        · split <;> (show (1 : Int) ≠ 0; decide)
      · rename_i h1 h2 h3
        rw [if_neg h1, if_neg h2, if_neg h3] at h
        unfold signT at h ⊢
        split
        · rename_i h4; rw [if_pos h4] at h; simp at h
        · show (5 : Int) ≠ 0; decide
theorem textL_off' : ∀ (l out : List UInt8) (j : Nat), (textL l out j).off ≤ j + l.length
  | [], out, j => by simp [textL_nil]
  | b :: t, out, j => by
    rw [textL_cons]
    split
    · simp
    split
    · split <;> simp
    split
    · simp
    split
    · cases t with
      | nil => simp [textM]
      | cons c t' =>
        rw [textM]
        split
        · have := textL_off' t' (out ++ [10]) (j + 2); simp; omega
        · split
          · have := textL_off' t' (out ++ [c]) (j + 2); simp; omega
          · simp
    · have := textL_off' t (out ++ [b]) (j + 1); simp; omega
theorem oneL_off' (s : ByteArray) (q : Nat) (h : q < s.size) : q + (oneL (sfx s q)).off ≤ s.size := by
  unfold oneL
  split
  · have := textL_off' ((sfx s q).drop 1) [] 1
    rw [sfx_drop, sfx_len] at this
    rw [sfx_drop]; omega
  · split
    · unfold numT; split <;> (show q + 0 ≤ s.size; omega)
    · split
      · unfold wordT; split
        · show q + 0 ≤ s.size; omega
        · split <;> (show q + 0 ≤ s.size; omega)
      · unfold signT; split <;> (show q + 0 ≤ s.size; omega)

/-- What has been read ahead of a place k. -/
structure Ahead (s : ByteArray) (k : Nat) (out : List TT) : Prop where
  at_ : ∀ x ∈ out, ∃ p, p < k ∧ x.l = ln s p ∧ x.c = cl s p ∧ x.t.kind ≠ 0
  up : out.Pairwise before
theorem Ahead.snoc {s : ByteArray} {k q : Nat} {out : List TT} (h : Ahead s k out) (hk : k ≤ q) (T : TK) : (out ++ [(⟨T, ln s q, cl s q⟩ : TT)]).Pairwise before := by
  rw [List.pairwise_append]
  refine ⟨h.up, by simp, fun x hx y hy => ?_⟩
  obtain ⟨p, hp, h1, h2, _⟩ := h.at_ x hx
  simp only [List.mem_singleton] at hy
  subst hy
  have := place_lt s p q (by omega)
  unfold before
  rw [h1, h2]
  exact this

/-- What the statement asks of an answer. -/
structure Good (s : ByteArray) (A : AR) : Prop where
  bad : A.err ≠ 0 → A.toks = [] ∧ 1 ≤ A.fl ∧ A.fl ≤ ln s s.size ∧ 1 ≤ A.fc ∧ A.fc ≤ s.size + 1
  zero : A.err = 0 → A.fl = 0 ∧ A.fc = 0
  toks : A.err = 0 → ∃ out q, A.toks = out ++ [⟨endT, ln s q, cl s q⟩] ∧ (∀ x ∈ out, x.t.kind ≠ 0) ∧ A.toks.Pairwise before ∧ A.toks.length ≤ 16385

theorem good_err (s : ByteArray) (e : Int) (p : Nat) (he : e ≠ 0) (hp : p ≤ s.size) : Good s ⟨[], e, ln s p, cl s p⟩ := by
  have h1 := ln_bd s p
  have h2 := cl_bd s p
  have h3 := ln_mono s p s.size hp
  exact ⟨fun _ => ⟨rfl, h1.1, h3, h2.1, by show cl s p ≤ s.size + 1; omega⟩, fun h => absurd h he, fun h => absurd h he⟩

theorem allA_good (s : ByteArray) : ∀ (f k : Nat) (out : List TT), s.size - k < f → k ≤ s.size → out.length ≤ 16384 → Ahead s k out → Good s (allA s f k out)
  | 0, k, out => fun h => by omega
  | f + 1, k, out => by
    intro hf hk hn ha
    rw [allA_succ]
    have hle := gapL_le (sfx s k) false
    rw [sfx_len] at hle
    have hflt := gap_fault_s s k
    obtain ⟨q, hq⟩ : ∃ q, k + (gapL (sfx s k) false).1 = q := ⟨_, rfl⟩
    rw [hq] at hflt ⊢
    have hkq : k ≤ q := by omega
    have hqs : q ≤ s.size := by omega
    cases hok : (gapL (sfx s k) false).2 with
    | false => exact good_err s 13 q (by decide) hqs
    | true =>
      by_cases hlt : q < s.size
      · by_cases he : (oneL (sfx s q)).err = 0
        · have hlen := oneL_len (sfx s q) (by intro h; have := sfx_len s q; rw [h] at this; simp at this; omega) he
          rw [sfx_len] at hlen
          by_cases hc : out.length = 16384
          · rw [rest_many s f q out hlt he hc]; exact good_err s 7 q (by decide) hqs
          · rw [rest_more s f q out hlt he hc]
            refine allA_good s f _ _ (by omega) (by omega) (by simp; omega) ⟨fun x hx => ?_, ha.snoc hkq _⟩
            rcases List.mem_append.1 hx with h | h
            · obtain ⟨p, hp, r⟩ := ha.at_ x h
              exact ⟨p, by omega, r⟩
            · simp only [List.mem_singleton] at h
              subst h
              exact ⟨q, by omega, rfl, rfl, oneL_kind _ he⟩
        · rw [(rest_bad s f q true out (fun h => by cases h) (.inr hlt) (.inr he)).2.2]
          exact good_err s _ _ he (oneL_off' s q hlt)
      · rw [rest_end s f q out (by omega)]
        refine ⟨fun h => absurd rfl h, fun _ => ⟨rfl, rfl⟩, fun _ => ⟨out, q, rfl, fun x hx => ?_, ha.snoc hkq _, by simp; omega⟩⟩
        obtain ⟨p, _, _, _, h⟩ := ha.at_ x hx
        exact h
theorem allR_good (s : ByteArray) (h : s.size ≤ 65536) : Good s (allR s) := by
  unfold allR
  rw [if_neg (by omega)]
  exact allA_good s _ 0 [] (by omega) (by omega) (by simp) ⟨(fun x hx => by cases hx), List.Pairwise.nil⟩
end Go.Proofs.YtmelilppeikdiaaDoor
