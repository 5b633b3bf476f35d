/- The plain law of LexQuotes: a text as it stands in a source, and what is read of it. -/
import Derived.Test.YtmelilppeikdiaaDoorAllPlain
namespace Go.Proofs.YtmelilppeikdiaaDoor
open Go.RowKit Go.PlainAid
set_option linter.unusedVariables false
set_option linter.unusedSimpArgs false

/-- A byte as it stands in a quoted text. -/
def qB (b : UInt8) : List UInt8 := if iv b = 10 then [92, 110] else if iv b = 34 ∨ iv b = 92 then [92, b] else [b]
def qL (l : List UInt8) : List UInt8 := l.flatMap qB
def quoteL (l : List UInt8) : List UInt8 := 34 :: (qL l ++ [34])
/-- A byte that may be said in a text. -/
def tB (b : UInt8) : Bool := cSaid (iv b) || decide (iv b = 10)
def isTextL (l : List UInt8) : Bool := l.all tB && decide (l.length ≤ 1024)

theorem qB_len (b : UInt8) : 1 ≤ (qB b).length ∧ (qB b).length ≤ 2 := by
  unfold qB; split
  · simp
  · split <;> simp
theorem qL_len (l : List UInt8) : l.length ≤ (qL l).length ∧ (qL l).length ≤ 2 * l.length := by
  induction l with
  | nil => simp [qL]
  | cons b t ih =>
    have h := qB_len b
    have e : qL (b :: t) = qB b ++ qL t := rfl
    rw [e]; simp; omega
theorem iv_inj {a b : UInt8} (h : iv a = iv b) : a = b := by
  unfold iv at h; apply UInt8.toNat_inj.1; omega
theorem iv_92 : iv 92 = 92 := by decide
theorem iv_34 : iv 34 = 34 := by decide
theorem iv_110 : iv 110 = 110 := by decide

/-- What is read of a quoted text behind its first quote. -/
theorem text_quote : ∀ (l out : List UInt8) (j : Nat),
    ((l.all tB = true ∧ out.length + l.length ≤ 1024) → textL (qL l ++ [34]) out j = ⟨3, out ++ l, 0, j + (qL l).length + 1, 0, 0⟩) ∧
    (¬ (l.all tB = true ∧ out.length + l.length ≤ 1024) → (textL (qL l ++ [34]) out j).err ≠ 0)
  | [], out, j => by
    have e : textL ([34] : List UInt8) out j = if 1024 < out.length then ⟨3, [], 0, 0, 3, 0⟩ else ⟨3, out, 0, j + 1, 0, 0⟩ := by
      rw [textL_cons, if_neg (by rw [iv_34]; omega), if_pos iv_34]
    show (_ → textL ([34] : List UInt8) out j = _) ∧ (_ → (textL ([34] : List UInt8) out j).err ≠ 0)
    rw [e]
    refine ⟨fun h => ?_, fun h => ?_⟩
    · rw [if_neg (by have := h.2; simp at this; omega)]
      simp [qL]
    · have : 1024 < out.length := by
        by_cases h2 : 1024 < out.length
        · exact h2
        · exact absurd ⟨rfl, by simp; omega⟩ h
      rw [if_pos this]; show (3 : Int) ≠ 0; decide
  | b :: t, out, j => by
    have e : qL (b :: t) ++ [34] = qB b ++ (qL t ++ [34]) := by simp [qL]
    have hall : (b :: t).all tB = (tB b && t.all tB) := rfl
    rw [e, hall]
    have step : ∀ (c : UInt8) (n : Nat), tB b = true → c = b → (qB b).length = n → textL (qB b ++ (qL t ++ [34])) out j = textL (qL t ++ [34]) (out ++ [c]) (j + n) →
        (((tB b && t.all tB) = true ∧ out.length + (b :: t).length ≤ 1024) → textL (qB b ++ (qL t ++ [34])) out j = ⟨3, out ++ b :: t, 0, j + (qL (b :: t)).length + 1, 0, 0⟩) ∧
        (¬ ((tB b && t.all tB) = true ∧ out.length + (b :: t).length ≤ 1024) → (textL (qB b ++ (qL t ++ [34])) out j).err ≠ 0) := by
      intro c n htb hc hn hst
      have ih := text_quote t (out ++ [c]) (j + n)
      rw [hst]
      subst hc
      refine ⟨fun h => ?_, fun h => ih.2 (fun h2 => h ⟨by rw [htb, h2.1]; rfl, by have := h2.2; simp at this ⊢; omega⟩)⟩
      rw [ih.1 ⟨by have := h.1; simp at this; simpa using this.2, by have := h.2; simp at this ⊢; omega⟩]
      have hlen : (qL (c :: t)).length = n + (qL t).length := by show (qB c ++ qL t).length = _; rw [List.length_append, hn]
      rw [hlen]
      simp; omega
    by_cases h10 : iv b = 10
    · have hb : b = 10 := iv_inj (by rw [h10]; decide)
      have hq : qB b = [92, 110] := by unfold qB; rw [if_pos h10]
      refine step 10 2 (by simp [tB, h10]) hb.symm (by rw [hq]; rfl) ?_
      rw [hq]
      show textL (92 :: 110 :: (qL t ++ [34])) out j = _
      rw [textL_cons, if_neg (by rw [iv_92]; omega), if_neg (by rw [iv_92]; omega), if_neg (by rw [iv_92]; decide), if_pos iv_92, textM, if_pos iv_110]
    · by_cases hq2 : iv b = 34 ∨ iv b = 92
      · have hq : qB b = [92, b] := by unfold qB; rw [if_neg h10, if_pos hq2]
        refine step b 2 (by rcases hq2 with h | h <;> (unfold tB; rw [h]; decide)) rfl (by rw [hq]; rfl) ?_
        rw [hq]
        show textL (92 :: b :: (qL t ++ [34])) out j = _
        rw [textL_cons, if_neg (by rw [iv_92]; omega), if_neg (by rw [iv_92]; omega), if_neg (by rw [iv_92]; decide), if_pos iv_92, textM, if_neg (by omega), if_pos hq2]
      · have hq : qB b = [b] := by unfold qB; rw [if_neg h10, if_neg hq2]
        cases hs : cSaid (iv b) with
        | true =>
          refine step b 1 (by unfold tB; rw [hs]; rfl) rfl (by rw [hq]; rfl) ?_
          rw [hq]
          show textL (b :: (qL t ++ [34])) out j = _
          rw [textL_cons, if_neg h10, if_neg (by omega), if_neg (by rw [hs]; simp), if_neg (by omega)]
        | false =>
          have htb : tB b = false := by unfold tB; rw [hs]; simp [h10]
          have hst : textL (qB b ++ (qL t ++ [34])) out j = ⟨3, [], 0, 0, 13, j⟩ := by
            rw [hq]
            show textL (b :: (qL t ++ [34])) out j = _
            rw [textL_cons, if_neg h10, if_neg (by omega), if_pos hs]
          rw [hst]
          refine ⟨fun h => ?_, fun _ => by show (13 : Int) ≠ 0; decide⟩
          have := h.1; rw [htb] at this; simp at this

/-- All, of a quoted text. -/
theorem all_quote (s : ByteArray) (l : List UInt8) (hs : s.data.toList = quoteL l) (hl : s.size ≤ 65536) :
    (isTextL l = true → ∃ e, allR s = ⟨[⟨⟨3, l, 0, s.size, 0, 0⟩, 1, 1⟩, e], 0, 0, 0⟩) ∧ (isTextL l = false → (allR s).err ≠ 0) := by
  have hsz : s.size = (qL l).length + 2 := by
    have := congrArg List.length hs
    simp [quoteL] at this; omega
  have h0 : sfx s 0 = 34 :: (qL l ++ [34]) := by show s.data.toList.drop 0 = _; rw [hs]; rfl
  have hg0 : gapL (sfx s 0) false = (0, true) := by
    rw [h0, gapL, if_neg (by rw [iv_34]; decide)]
    have hR : gapR 34 (qL l ++ [34]) false = false := by
      unfold gapR; rw [if_neg (by rw [iv_34]; omega), if_neg (by rw [iv_34]; omega)]
    rw [hR, if_pos ⟨rfl, by rw [iv_34]; decide⟩]
  have hone : oneL (sfx s 0) = textL (qL l ++ [34]) [] 1 := by
    rw [h0]; unfold oneL
    rw [if_pos (show hd (34 :: (qL l ++ [34])) = 34 from iv_34)]; rfl
  have hq := text_quote l [] 1
  have hr : allR s = restA s s.size 0 true [] := by
    unfold allR
    rw [if_neg (by omega), allA_succ, hg0]; rfl
  have hiff : isTextL l = true ↔ (l.all tB = true ∧ ([] : List UInt8).length + l.length ≤ 1024) := by
    unfold isTextL; simp
  rw [hr]
  refine ⟨fun h => ?_, fun h => ?_⟩
  · have ht := hq.1 (hiff.1 h)
    rw [← hone] at ht
    rw [rest_more s s.size 0 [] (by omega) (by rw [ht]) (by simp), ht]
    have hk : 0 + (1 + (qL l).length + 1) = s.size := by omega
    rw [List.nil_append, hk]
    obtain ⟨f, hf⟩ : ∃ f, s.size = f + 1 := ⟨s.size - 1, by omega⟩
    have hend : ∀ out, allA s (f + 1) s.size out = restA s f s.size true out := fun out => by
      rw [allA_succ, sfx_nil (Nat.le_refl _)]; rfl
    have e1 : (1 + (qL l).length + 1) = s.size := by omega
    rw [e1]
    refine ⟨⟨endT, ln s s.size, cl s s.size⟩, ?_⟩
    have : ∀ n, n = f + 1 → allA s n s.size [⟨⟨3, l, 0, s.size, 0, 0⟩, ln s 0, cl s 0⟩] = ⟨[⟨⟨3, l, 0, s.size, 0, 0⟩, 1, 1⟩, ⟨endT, ln s s.size, cl s s.size⟩], 0, 0, 0⟩ := by
      intro n hn
      rw [hn, hend, rest_end s f s.size _ (Nat.le_refl _)]; rfl
    exact this s.size hf
  · have ht := hq.2 (fun h2 => by rw [hiff.2 h2] at h; simp at h)
    rw [← hone] at ht
    rw [(rest_bad s s.size 0 true [] (fun h => by cases h) (.inr (by omega)) (.inr ht)).2.2]
    exact ht
end Go.Proofs.YtmelilppeikdiaaDoor
