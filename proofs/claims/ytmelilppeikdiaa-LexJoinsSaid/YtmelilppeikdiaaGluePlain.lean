/- The plain law of LexJoins: the tokens of two sources with a line feed between. -/
import Derived.Test.YtmelilppeikdiaaPlacesPlain
namespace Go.Proofs.Ytmelilppeikdiaa
open Go.RowKit Go.PlainAid
set_option linter.unusedVariables false
set_option linter.unusedSimpArgs false

theorem iv10 : iv 10 = 10 := by decide
theorem gapR_glue (b : UInt8) (x y : List UInt8) (rm : Bool) : gapR b (x ++ 10 :: y) rm = gapR b x rm := by
  cases x with
  | nil =>
    have h1 : ¬ (iv b = 47 ∧ hd (10 :: y) = 47) := by show ¬ (iv b = 47 ∧ iv 10 = 47); rw [iv10]; omega
    have h2 : ¬ (iv b = 47 ∧ hd ([] : List UInt8) = 47) := by show ¬ (iv b = 47 ∧ (0 : Int) = 47); omega
    show gapR b (10 :: y) rm = gapR b [] rm
    unfold gapR
    rw [if_neg h1, if_neg h2]
  | cons c t => rfl
/-- The gap, where a line feed and more stand behind. -/
theorem gap_glue (y : List UInt8) : ∀ (x : List UInt8) (rm : Bool),
    gapL (x ++ 10 :: y) rm = if (gapL x rm).2 = true ∧ (gapL x rm).1 = x.length then (x.length + 1 + (gapL y false).1, (gapL y false).2) else gapL x rm
  | [], rm => by
    have hm : cMay (iv 10) = true := by rw [iv10]; decide
    have hR : gapR 10 y rm = false := by unfold gapR; rw [if_neg (by rw [iv10]; omega), if_pos iv10]
    have hb : cBlank (iv 10) = true := by rw [iv10]; decide
    have e : gapL (10 :: y) rm = ((gapL y false).1 + 1, (gapL y false).2) := by
      rw [gapL, if_neg (by rw [hm]; simp), hR, if_neg (by rw [hb]; simp)]
    have e2 : gapL ([] : List UInt8) rm = (0, true) := rfl
    show gapL (10 :: y) rm = _
    rw [e, e2, if_pos ⟨rfl, rfl⟩]
    simp; omega
  | b :: t, rm => by
    show gapL (b :: (t ++ 10 :: y)) rm = _
    rw [gapL, gapR_glue, gap_glue y t]
    have hle := gapL_le t (gapR b t rm)
    by_cases h1 : cMay (iv b) = false
    · rw [if_pos h1, if_neg (by rw [gapL, if_pos h1]; simp), gapL, if_pos h1]
    · rw [if_neg h1]
      by_cases h2 : gapR b t rm = false ∧ cBlank (iv b) = false
      · rw [if_pos h2, if_neg (by rw [gapL, if_neg h1, if_pos h2]; simp), gapL, if_neg h1, if_pos h2]
      · rw [if_neg h2]
        have e : gapL (b :: t) rm = ((gapL t (gapR b t rm)).1 + 1, (gapL t (gapR b t rm)).2) := by rw [gapL, if_neg h1, if_neg h2]
        rw [e]
        by_cases h3 : (gapL t (gapR b t rm)).2 = true ∧ (gapL t (gapR b t rm)).1 = t.length
        · rw [if_pos h3, if_pos ⟨h3.1, by simp only [List.length_cons]; omega⟩]
          simp only [List.length_cons, Prod.mk.injEq, and_true]; omega
        · rw [if_neg h3, if_neg (by rintro ⟨a, b'⟩; simp only [List.length_cons] at b'; exact h3 ⟨a, by omega⟩)]

theorem run_glue (p : Int → Bool) (hp : p 10 = false) (y : List UInt8) : ∀ x : List UInt8, runL p (x ++ 10 :: y) = runL p x
  | [] => by
    show runL p (10 :: y) = 0
    rw [runL, if_neg (by rw [iv10, hp]; simp)]
  | b :: t => by
    show runL p (b :: (t ++ 10 :: y)) = _
    rw [runL, runL, run_glue p hp y t]
theorem hd_glue (x y : List UInt8) (h : x ≠ []) : hd (x ++ 10 :: y) = hd x := by
  cases x with
  | nil => exact absurd rfl h
  | cons b t => rfl
theorem hd_drop_glue (x y : List UInt8) (n : Nat) (h : n ≤ x.length) : hd ((x ++ 10 :: y).drop n) = hd (x.drop n) ∨ (hd ((x ++ 10 :: y).drop n) = 10 ∧ hd (x.drop n) = 0) := by
  rw [List.drop_append_of_le_length h]
  by_cases e : x.drop n = []
  · right; rw [e]; exact ⟨iv10, rfl⟩
  · left; exact hd_glue _ _ e

theorem text_glue (y : List UInt8) : ∀ (x out : List UInt8) (j : Nat), textL (x ++ 10 :: y) out j = textL x out j
  | [], out, j => by
    show textL (10 :: y) out j = _
    rw [textL_cons, if_pos iv10, textL_nil]
  | b :: t, out, j => by
    show textL (b :: (t ++ 10 :: y)) out j = _
    rw [textL_cons, textL_cons, text_glue y t]
    have hM : textM (t ++ 10 :: y) out j = textM t out j := by
      cases t with
      | nil =>
        have e : textM (10 :: y) out j = ⟨3, [], 0, 0, 4, j⟩ := by
          rw [textM, if_neg (by rw [iv10]; omega), if_neg (by rw [iv10]; omega)]
        exact e
      | cons c t' =>
        show textM (c :: (t' ++ 10 :: y)) out j = _
        rw [textM, textM, text_glue y t', text_glue y t']
    rw [hM]

theorem one_glue (x y : List UInt8) (h : x ≠ []) : oneL (x ++ 10 :: y) = oneL x := by
  have hh := hd_glue x y h
  have hl1 : 1 ≤ x.length := by
    cases x with
    | nil => exact absurd rfl h
    | cons b t => simp
  have hd1 := hd_drop_glue x y 1 hl1
  unfold oneL
  rw [hh]
  have e1 : (x ++ 10 :: y).drop 1 = x.drop 1 ++ 10 :: y := List.drop_append_of_le_length hl1
  have eN : numT (x ++ 10 :: y) = numT x := by
    have hr := run_glue digitB (by decide) y x
    have hle := runL_le digitB x
    have hd2 := hd_drop_glue x y (runL digitB x) hle
    unfold numT
    rw [hr, hh, List.take_append_of_le_length hle]
    rcases hd2 with e | ⟨e, e0⟩
    · rw [e]
    · rw [e, e0]; rfl
  have eW : wordT (x ++ 10 :: y) = wordT x := by
    have hr := run_glue cName (by decide) y x
    have hle := runL_le cName x
    unfold wordT
    rw [hr, List.take_append_of_le_length hle]
  have eS : signT (x ++ 10 :: y) = signT x := by
    have es : signL (x ++ 10 :: y) = signL x := by
      unfold signL
      rw [hh]
      rcases hd1 with e | ⟨e, e0⟩
      · rw [e]
      · rw [e, e0]; simp
    unfold signT
    rw [es]
    have hle := signL_le (l := x)
    rw [List.take_append_of_le_length hle]
  rw [e1, text_glue, eN, eW, eS]

section
variable {a b c : ByteArray} (hc : c.data.toList = a.data.toList ++ 10 :: b.data.toList)
include hc
theorem glue_size : c.size = a.size + 1 + b.size := by
  have := congrArg List.length hc
  simp at this; omega
theorem sfx_left (k : Nat) (h : k ≤ a.size) : sfx c k = sfx a k ++ 10 :: b.data.toList := by
  unfold sfx; rw [hc, List.drop_append_of_le_length (by simpa using h)]
theorem sfx_right (r : Nat) : sfx c (a.size + 1 + r) = sfx b r := by
  unfold sfx
  rw [hc]
  have : a.data.toList.length = a.size := by simp
  rw [List.drop_append, List.drop_eq_nil_of_le (by omega), this, show a.size + 1 + r - a.size = r + 1 by omega]
  rfl
theorem bt_left (k : Nat) (h : k < a.size) : bt c k = bt a k := by
  rw [← hd_sfx, ← hd_sfx, sfx_left hc k (by omega)]
  exact hd_glue _ _ (fun e => by have := sfx_len a k; rw [e] at this; simp at this; omega)
theorem bt_mid : bt c a.size = 10 := by
  rw [← hd_sfx, sfx_left hc _ (Nat.le_refl _), sfx_nil (Nat.le_refl _)]; exact iv10
theorem bt_right (r : Nat) : bt c (a.size + 1 + r) = bt b r := by
  rw [← hd_sfx, ← hd_sfx, sfx_right hc]
theorem place_left : ∀ p, p ≤ a.size → ln c p = ln a p ∧ cl c p = cl a p
  | 0, _ => ⟨rfl, rfl⟩
  | p + 1, h => by
    have ih := place_left p (by omega)
    rw [ln, ln, cl, cl, bt_left hc p (by omega), ih.1, ih.2]
    exact ⟨rfl, rfl⟩
theorem place_right : ∀ r, ln c (a.size + 1 + r) = ln a a.size + ln b r ∧ cl c (a.size + 1 + r) = cl b r
  | 0 => by
    have := place_left hc a.size (Nat.le_refl _)
    have e1 : ln c (a.size + 1) = ln c a.size + 1 := by rw [ln, if_pos (bt_mid hc)]
    have e2 : cl c (a.size + 1) = 1 := by rw [cl, if_pos (bt_mid hc)]
    rw [this.1] at e1
    exact ⟨e1, e2⟩
  | r + 1 => by
    have ih := place_right r
    show ln c (a.size + 1 + r + 1) = _ ∧ cl c (a.size + 1 + r + 1) = _
    rw [ln, cl, bt_right hc r, ih.1, ih.2, ln, cl]
    split
    · exact ⟨by omega, rfl⟩
    · exact ⟨rfl, rfl⟩

/-- The first source: an error in it is the whole's; else the whole goes on behind the line feed with its tokens. -/
theorem glue_left (hs : c.size ≤ 16000) : ∀ (fa fc k : Nat) (out : List TT), a.size - k < fa → c.size - k < fc → k ≤ a.size → out.length ≤ k →
    ((allA a fa k out).err ≠ 0 → allA c fc k out = allA a fa k out) ∧
    ((allA a fa k out).err = 0 → ∃ f out' q, (allA a fa k out).toks = out' ++ [⟨endT, ln a q, cl a q⟩] ∧ out'.length ≤ a.size ∧ c.size - (a.size + 1) < f ∧ allA c fc k out = allA c f (a.size + 1) out')
  | 0, fc, k, out => fun h => by omega
  | fa + 1, 0, k, out => fun _ h => by omega
  | fa + 1, fc + 1, k, out => by
    intro hfa hfc hk hn
    have hsz := glue_size hc
    have hle := gapL_le (sfx a k) false
    rw [sfx_len] at hle
    have hg := gap_glue b.data.toList (sfx a k) false
    rw [← sfx_left hc k hk, sfx_len] at hg
    have hflt := gap_fault_s a k
    rw [allA_succ, allA_succ]
    by_cases hend : (gapL (sfx a k) false).2 = true ∧ (gapL (sfx a k) false).1 = a.size - k
    · rw [if_pos hend] at hg
      rw [hend.1, hend.2, rest_end a fa _ out (by omega)]
      refine ⟨fun h => absurd rfl h, fun _ => ⟨fc + 1, out, _, rfl, by omega, by omega, ?_⟩⟩
      rw [hg, allA_succ, show sfx c (a.size + 1) = sfx b 0 from sfx_right hc 0]
      show restA c fc (k + (a.size - k + 1 + (gapL b.data.toList false).1)) (gapL b.data.toList false).2 out = restA c fc (a.size + 1 + (gapL b.data.toList false).1) (gapL b.data.toList false).2 out
      rw [show k + (a.size - k + 1 + (gapL b.data.toList false).1) = a.size + 1 + (gapL b.data.toList false).1 by omega]
    · rw [if_neg hend] at hg
      rw [hg]
      obtain ⟨q, hq⟩ : ∃ q, k + (gapL (sfx a k) false).1 = q := ⟨_, rfl⟩
      rw [hq] at hflt ⊢
      have hpl := place_left hc q (by omega)
      cases hok : (gapL (sfx a k) false).2 with
      | false =>
        have e1 : restA c fc q false out = ⟨[], 13, ln c q, cl c q⟩ := rfl
        have e2 : restA a fa q false out = ⟨[], 13, ln a q, cl a q⟩ := rfl
        rw [e1, e2, hpl.1, hpl.2]
        exact ⟨fun _ => rfl, fun h => by simp at h⟩
      | true =>
        have hqa : q < a.size := by
          have : (gapL (sfx a k) false).1 ≠ a.size - k := fun e => hend ⟨hok, e⟩
          omega
        have hne : sfx a q ≠ [] := fun e => by have := sfx_len a q; rw [e] at this; simp at this; omega
        have hone : oneL (sfx c q) = oneL (sfx a q) := by rw [sfx_left hc q (by omega)]; exact one_glue _ _ hne
        by_cases he : (oneL (sfx a q)).err = 0
        · have hlen := oneL_len (sfx a q) hne he
          rw [sfx_len] at hlen
          rw [rest_more a fa q out hqa he (by omega), rest_more c fc q out (by omega) (by rw [hone]; exact he) (by omega), hone, hpl.1, hpl.2]
          exact glue_left hs fa fc _ _ (by omega) (by omega) (by omega) (by simp; omega)
        · have hoff := oneL_off' a q hqa
          have hpo := place_left hc (q + (oneL (sfx a q)).off) hoff
          rw [(rest_bad a fa q true out (fun h => by cases h) (.inr hqa) (.inr he)).2.2, (rest_bad c fc q true out (fun h => by cases h) (.inr (by omega)) (.inr (by rw [hone]; exact he))).2.2, hone, hpo.1, hpo.2]
          exact ⟨fun _ => rfl, fun h => absurd h he⟩

def shiftT (a : ByteArray) (x : TT) : TT := ⟨x.t, x.l + ln a a.size, x.c⟩
/-- The second source, behind the first and the line feed. -/
theorem glue_right (hs : c.size ≤ 16000) (outA : List TT) (hA : outA.length ≤ a.size) : ∀ (fb fc r : Nat) (out : List TT), b.size - r < fb → c.size - (a.size + 1 + r) < fc → r ≤ b.size → out.length ≤ r →
    (allA c fc (a.size + 1 + r) (outA ++ out.map (shiftT a))).err = (allA b fb r out).err ∧ (allA c fc (a.size + 1 + r) (outA ++ out.map (shiftT a))).fc = (allA b fb r out).fc ∧
    ((allA b fb r out).err ≠ 0 → (allA c fc (a.size + 1 + r) (outA ++ out.map (shiftT a))).fl = (allA b fb r out).fl + ln a a.size ∧ (allA c fc (a.size + 1 + r) (outA ++ out.map (shiftT a))).toks = []) ∧
    ((allA b fb r out).err = 0 → (allA c fc (a.size + 1 + r) (outA ++ out.map (shiftT a))).toks = outA ++ (allA b fb r out).toks.map (shiftT a))
  | 0, fc, r, out => fun h => by omega
  | fb + 1, 0, r, out => fun _ h hr => by have := glue_size hc; omega
  | fb + 1, fc + 1, r, out => by
    intro hfb hfc hr hn
    have hsz := glue_size hc
    have hle := gapL_le (sfx b r) false
    rw [sfx_len] at hle
    rw [allA_succ, allA_succ, sfx_right hc]
    obtain ⟨q, hq⟩ : ∃ q, r + (gapL (sfx b r) false).1 = q := ⟨_, rfl⟩
    rw [show a.size + 1 + r + (gapL (sfx b r) false).1 = a.size + 1 + q by omega, hq]
    have hpl := place_right hc q
    cases hok : (gapL (sfx b r) false).2 with
    | false =>
      have e1 : restA c fc (a.size + 1 + q) false (outA ++ out.map (shiftT a)) = ⟨[], 13, ln c (a.size + 1 + q), cl c (a.size + 1 + q)⟩ := rfl
      have e2 : restA b fb q false out = ⟨[], 13, ln b q, cl b q⟩ := rfl
      rw [e1, e2, hpl.1, hpl.2]
      exact ⟨rfl, rfl, fun _ => ⟨by simp only; omega, rfl⟩, fun h => by simp at h⟩
    | true =>
      by_cases hqb : q < b.size
      · have hone : oneL (sfx c (a.size + 1 + q)) = oneL (sfx b q) := by rw [sfx_right hc]
        have hne : sfx b q ≠ [] := fun e => by have := sfx_len b q; rw [e] at this; simp at this; omega
        by_cases he : (oneL (sfx b q)).err = 0
        · have hlen := oneL_len (sfx b q) hne he
          rw [sfx_len] at hlen
          rw [rest_more b fb q out hqb he (by omega), rest_more c fc _ _ (by omega) (by rw [hone]; exact he) (by simp; omega), hone, hpl.1, hpl.2]
          have ih := glue_right hs outA hA fb fc (q + (oneL (sfx b q)).len) (out ++ [⟨oneL (sfx b q), ln b q, cl b q⟩]) (by omega) (by omega) (by omega) (by simp; omega)
          have e : outA ++ (out ++ [(⟨oneL (sfx b q), ln b q, cl b q⟩ : TT)]).map (shiftT a) = outA ++ out.map (shiftT a) ++ [⟨oneL (sfx b q), ln a a.size + ln b q, cl b q⟩] := by
            simp only [List.map_append, List.map_cons, List.map_nil, shiftT, List.append_assoc]
            rw [Int.add_comm]
          rw [e, show a.size + 1 + (q + (oneL (sfx b q)).len) = a.size + 1 + q + (oneL (sfx b q)).len by omega] at ih
          exact ih
        · have hpo := place_right hc (q + (oneL (sfx b q)).off)
          rw [(rest_bad b fb q true out (fun h => by cases h) (.inr hqb) (.inr he)).2.2, (rest_bad c fc _ true _ (fun h => by cases h) (.inr (by omega)) (.inr (by rw [hone]; exact he))).2.2, hone, show a.size + 1 + q + (oneL (sfx b q)).off = a.size + 1 + (q + (oneL (sfx b q)).off) by omega, hpo.1, hpo.2]
          exact ⟨rfl, rfl, fun _ => ⟨by simp only; omega, rfl⟩, fun h => absurd h he⟩
      · rw [rest_end b fb q out (by omega), rest_end c fc _ _ (by omega), hpl.1, hpl.2]
        refine ⟨rfl, rfl, fun h => absurd rfl h, fun _ => ?_⟩
        simp only [List.map_append, List.map_cons, List.map_nil, shiftT, List.append_assoc]
        rw [Int.add_comm]

/-- The three answers. -/
theorem glue_all (hs : c.size ≤ 16000) :
    ((allR a).err ≠ 0 → allR c = allR a) ∧
    ((allR a).err = 0 → (allR b).err ≠ 0 → (allR c).err = (allR b).err ∧ (allR c).fc = (allR b).fc ∧ (allR b).fl < (allR c).fl ∧ (allR c).toks = []) ∧
    ((allR a).err = 0 → (allR b).err = 0 → (allR c).err = 0 ∧ ∃ outA e, (allR a).toks = outA ++ [e] ∧ (allR c).toks = outA ++ (allR b).toks.map (shiftT a)) := by
  have hsz := glue_size hc
  have hL := glue_left hc hs (a.size + 1) (c.size + 1) 0 [] (by omega) (by omega) (by omega) (by simp)
  have ra : allR a = allA a (a.size + 1) 0 [] := by unfold allR; rw [if_neg (by omega)]
  have rb : allR b = allA b (b.size + 1) 0 [] := by unfold allR; rw [if_neg (by omega)]
  have rc : allR c = allA c (c.size + 1) 0 [] := by unfold allR; rw [if_neg (by omega)]
  rw [← ra, ← rc] at hL
  have hlb := ln_bd a a.size
  refine ⟨hL.1, fun h0 hb => ?_, fun h0 hb => ?_⟩
  · obtain ⟨f, out', q, h1, h2, h3, h4⟩ := hL.2 h0
    have hR := glue_right hc hs out' h2 (b.size + 1) f 0 [] (by omega) (by omega) (by omega) (by simp)
    rw [List.map_nil, List.append_nil, Nat.add_zero, ← h4, ← rb] at hR
    obtain ⟨e1, e2, e3, _⟩ := hR
    have := e3 hb
    exact ⟨e1, e2, by omega, this.2⟩
  · obtain ⟨f, out', q, h1, h2, h3, h4⟩ := hL.2 h0
    have hR := glue_right hc hs out' h2 (b.size + 1) f 0 [] (by omega) (by omega) (by omega) (by simp)
    rw [List.map_nil, List.append_nil, Nat.add_zero, ← h4, ← rb] at hR
    exact ⟨hR.1.trans hb, out', _, h1, hR.2.2.2 hb⟩
end
end Go.Proofs.Ytmelilppeikdiaa
