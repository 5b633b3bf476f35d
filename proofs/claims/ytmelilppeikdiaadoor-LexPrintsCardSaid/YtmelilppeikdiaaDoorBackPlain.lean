/- The plain law of LexBack: tokens, printed with a blank between, are read as the same tokens. No program in sight. -/
import Derived.Test.YtmelilppeikdiaaDoorQuotePlain
import Derived.Test.YtmelilppeikdiaaDoorTextPlain
import Derived.Test.YtmelilppeikdiaaDoorPlacesPlain
namespace Go.Proofs.YtmelilppeikdiaaDoor
open Go.RowKit Go.PlainAid
set_option linter.unusedVariables false
set_option linter.unusedSimpArgs false

/-- A token as it is printed. -/
def prT (T : TK) : List UInt8 :=
  if T.kind = 2 then Lib.itoa T.num else if T.kind = 3 then quoteL T.text else if T.kind = 1 ∨ T.kind = 4 ∨ T.kind = 5 then T.text else []
/-- Nothing stands behind, or a blank. -/
def Behind (r : List UInt8) : Prop := r = [] ∨ ∃ y, r = 32 :: y
theorem behind_hd {r : List UInt8} (h : Behind r) : hd r = 0 ∨ hd r = 32 := by
  rcases h with h | ⟨y, h⟩
  · left; rw [h]; rfl
  · right; rw [h]; show iv 32 = 32; decide

theorem run_take (p : Int → Bool) (r : List UInt8) (hr : r = [] ∨ p (hd r) = false) : ∀ l : List UInt8, runL p (l.take (runL p l) ++ r) = runL p l
  | [] => by
    simp only [runL, List.take_nil, List.nil_append]
    cases r with
    | nil => rfl
    | cons b t =>
      rw [runL, if_neg]
      rcases hr with h | h
      · cases h
      · intro h2; rw [show p (iv b) = false from h] at h2; cases h2
  | b :: t => by
    rw [runL]
    by_cases hb : p (iv b) = true
    · rw [if_pos hb, List.take_succ_cons, List.cons_append, runL, if_pos hb, run_take p r hr t]
    · rw [if_neg hb, List.take_zero, List.nil_append]
      cases r with
      | nil => rfl
      | cons c u =>
        rw [runL, if_neg]
        rcases hr with h | h
        · cases h
        · intro h2; rw [show p (iv c) = false from h] at h2; cases h2
theorem run_nil_pos (p : Int → Bool) (b : UInt8) (t : List UInt8) (h : p (iv b) = true) : 0 < runL p (b :: t) := by rw [runL, if_pos h]; omega
theorem hd_takeP (l r : List UInt8) (n : Nat) (h : 0 < n) (hl : l ≠ []) : hd (l.take n ++ r) = hd l := by
  cases l with
  | nil => exact absurd rfl hl
  | cons b t =>
    cases n with
    | zero => omega
    | succ n => rfl
theorem take_app (l r : List UInt8) (n : Nat) (h : n ≤ l.length) : (l.take n ++ r).take n = l.take n := by
  rw [List.take_append_of_le_length (by simp; omega), List.take_take]; simp
theorem drop_app (l r : List UInt8) (n : Nat) (h : n ≤ l.length) : (l.take n ++ r).drop n = r := by
  rw [List.drop_append_of_le_length (by simp; omega), List.drop_of_length_le (by simp; omega)]; rfl

/-! ### Texts -/
theorem text_app : ∀ (x out : List UInt8) (j : Nat), (textL x out j).err = 0 → ∀ y, textL (x ++ y) out j = textL x out j
  | [], out, j => by intro h; simp [textL_nil] at h
  | b :: t, out, j => by
    intro h y
    rw [textL_cons] at h
    show textL (b :: (t ++ y)) out j = _
    rw [textL_cons, textL_cons]
    by_cases h1 : iv b = 10
    · rw [if_pos h1] at h; simp at h
    rw [if_neg h1] at h ⊢
    rw [if_neg h1]
    by_cases h2 : iv b = 34
    · rw [if_pos h2, if_pos h2]
    rw [if_neg h2] at h ⊢
    rw [if_neg h2]
    by_cases h3 : cSaid (iv b) = false
    · rw [if_pos h3] at h; simp at h
    rw [if_neg h3] at h ⊢
    rw [if_neg h3]
    by_cases h4 : iv b = 92
    · rw [if_pos h4] at h ⊢
      rw [if_pos h4]
      cases t with
      | nil => simp [textM] at h
      | cons c t' =>
        show textM (c :: (t' ++ y)) out j = _
        rw [textM] at h ⊢
        rw [textM]
        by_cases h5 : iv c = 110
        · rw [if_pos h5] at h ⊢; rw [if_pos h5]; exact text_app t' _ _ h y
        · rw [if_neg h5] at h ⊢
          rw [if_neg h5]
          by_cases h6 : iv c = 34 ∨ iv c = 92
          · rw [if_pos h6] at h ⊢; rw [if_pos h6]; exact text_app t' _ _ h y
          · rw [if_neg h6] at h; simp at h
    · rw [if_neg h4] at h ⊢
      rw [if_neg h4]
      exact text_app t _ _ h y
/-- A text that is read: what it says, and how it stands there. -/
theorem text_raw : ∀ (t out : List UInt8) (j : Nat), (textL t out j).err = 0 →
    ∃ c, textL t out j = ⟨3, out ++ c, 0, j + (qL c).length + 1, 0, 0⟩ ∧ t.take ((qL c).length + 1) = qL c ++ [34] ∧ c.all tB = true ∧ out.length + c.length ≤ 1024
  | [], out, j => by intro h; simp [textL_nil] at h
  | b :: t, out, j => by
    intro h
    rw [textL_cons] at h ⊢
    by_cases h1 : iv b = 10
    · rw [if_pos h1] at h; simp at h
    rw [if_neg h1] at h ⊢
    by_cases h2 : iv b = 34
    · rw [if_pos h2] at h ⊢
      by_cases h3 : 1024 < out.length
      · rw [if_pos h3] at h; simp at h
      · rw [if_neg h3]
        have hb : b = 34 := iv_inj (by rw [h2]; decide)
        exact ⟨[], by simp [qL], by simp [qL, hb], rfl, by simp; omega⟩
    rw [if_neg h2] at h ⊢
    by_cases h3 : cSaid (iv b) = false
    · rw [if_pos h3] at h; simp at h
    rw [if_neg h3] at h ⊢
    have h3' : cSaid (iv b) = true := by simpa using h3
    by_cases h4 : iv b = 92
    · rw [if_pos h4] at h ⊢
      have hb : b = 92 := iv_inj (by rw [h4]; decide)
      cases t with
      | nil => simp [textM] at h
      | cons c t' =>
        rw [textM] at h ⊢
        by_cases h5 : iv c = 110
        · rw [if_pos h5] at h ⊢
          have hc : c = 110 := iv_inj (by rw [h5]; decide)
          obtain ⟨x, e1, e2, e3, e4⟩ := text_raw t' _ _ h
          have hq : qL (10 :: x) = 92 :: 110 :: qL x := by show qB 10 ++ qL x = _; rfl
          refine ⟨10 :: x, ?_, ?_, ?_, ?_⟩
          · rw [e1, hq]; simp; omega
          · rw [hq, hb, hc]
            show (92 :: 110 :: t').take ((qL x).length + 1 + 1 + 1) = _
            rw [List.take_succ_cons, List.take_succ_cons, e2]; rfl
          · show (tB 10 && x.all tB) = true; rw [e3]; decide
          · simp at e4 ⊢; omega
        · rw [if_neg h5] at h ⊢
          by_cases h6 : iv c = 34 ∨ iv c = 92
          · rw [if_pos h6] at h ⊢
            obtain ⟨x, e1, e2, e3, e4⟩ := text_raw t' _ _ h
            have hq : qL (c :: x) = 92 :: c :: qL x := by
              show qB c ++ qL x = _
              unfold qB; rw [if_neg (by omega), if_pos h6]; rfl
            refine ⟨c :: x, ?_, ?_, ?_, ?_⟩
            · rw [e1, hq]; simp; omega
            · rw [hq, hb]
              show (92 :: c :: t').take ((qL x).length + 1 + 1 + 1) = _
              rw [List.take_succ_cons, List.take_succ_cons, e2]; rfl
            · show (tB c && x.all tB) = true
              rw [e3]
              have : tB c = true := by unfold tB; rcases h6 with h | h <;> (rw [h]; decide)
              rw [this]; rfl
            · simp at e4 ⊢; omega
          · rw [if_neg h6] at h; simp at h
    · rw [if_neg h4] at h ⊢
      obtain ⟨x, e1, e2, e3, e4⟩ := text_raw t _ _ h
      have hq : qL (b :: x) = b :: qL x := by
        show qB b ++ qL x = _
        unfold qB; rw [if_neg h1, if_neg (by omega)]; rfl
      refine ⟨b :: x, ?_, ?_, ?_, ?_⟩
      · rw [e1, hq]; simp; omega
      · rw [hq]
        show (b :: t).take ((qL x).length + 1 + 1) = _
        rw [List.take_succ_cons, e2]; rfl
      · show (tB b && x.all tB) = true
        rw [e3]; unfold tB; rw [h3']; rfl
      · simp at e4 ⊢; omega

/-! ### Numbers -/
theorem bt_take (l : List UInt8) (n j : Nat) (h : j < n) (hn : n ≤ l.length) : bt (mk (l.take n)) j = bt (mk l) j := by
  rw [bt_mk _ _ (by simp; omega), bt_mk _ _ (by omega), List.getElem_take]
/-- The decimal numeral of what digits are worth is these digits, if they begin with none but a lone 0. -/
theorem dec_back (l : List UInt8) (hd' : ∀ j, j < l.length → 48 ≤ bt (mk l) j ∧ bt (mk l) j ≤ 57) (h0 : l.length = 1 ∨ bt (mk l) 0 ≠ 48) (hne : 0 < l.length) :
    ∀ k, 0 < k → k ≤ l.length → Lib.decDigits (nv (mk l) k).toNat = l.take k ∧ (1 ≤ nv (mk l) k ∨ l.length = 1)
  | 0, h, _ => absurd h (by omega)
  | k + 1, _, hk => by
    have hb := hd' k (by omega)
    have hbk : bt (mk l) k = ((l[k]'(by omega)).toNat : Int) := bt_mk l k (by omega)
    have hlast : ∀ u : Nat, ((u : Int) = bt (mk l) k - 48) → [UInt8.ofNat (48 + u)] = [l[k]'(by omega)] := by
      intro u hu
      congr 1
      apply UInt8.toNat_inj.1
      rw [UInt8.toNat_ofNat']; omega
    by_cases hk0 : k = 0
    · subst hk0
      have hb' : 48 ≤ bt (mk l) 0 ∧ bt (mk l) 0 ≤ 57 := hd' 0 hne
      have e : nv (mk l) (0 + 1) = bt (mk l) 0 - 48 := by simp only [nv]; omega
      obtain ⟨u, hu⟩ : ∃ u : Nat, (u : Int) = bt (mk l) 0 - 48 := ⟨_, Int.toNat_of_nonneg (by clear hbk hlast hb; omega)⟩
      rw [e, ← hu]
      refine ⟨?_, ?_⟩
      · rw [Int.toNat_natCast, Lib.decDigits, dif_pos (by omega), hlast u hu]
        cases l with
        | nil => simp at hne
        | cons a t => rfl
      · rcases h0 with h | h
        · exact .inr h
        · left
          have h2 : bt (mk l) 0 ≠ 48 := h
          have hu2 : (u : Int) = bt (mk l) 0 - 48 := hu
          clear hbk hlast hb hu h
          omega
    · obtain ⟨ih1, ih2⟩ := dec_back l hd' h0 hne k (by omega) (by omega)
      have h1 : 1 ≤ nv (mk l) k := by
        rcases ih2 with h | h
        · exact h
        · omega
      have e : nv (mk l) (k + 1) = 10 * nv (mk l) k + (bt (mk l) k - 48) := rfl
      obtain ⟨v, hv⟩ : ∃ v : Nat, (v : Int) = nv (mk l) k := ⟨(nv (mk l) k).toNat, by omega⟩
      obtain ⟨u, hu⟩ : ∃ u : Nat, (u : Int) = bt (mk l) k - 48 := ⟨(bt (mk l) k - 48).toNat, by omega⟩
      rw [← hv] at ih1 h1
      rw [e, ← hv, ← hu]
      have en : (10 * (v : Int) + (u : Int)).toNat = 10 * v + u := by omega
      refine ⟨?_, .inl (by omega)⟩
      rw [en, Lib.decDigits, dif_neg (by omega)]
      rw [Int.toNat_natCast] at ih1
      rw [show (10 * v + u) / 10 = v by omega, show (10 * v + u) % 10 = u by omega, ih1, hlast u hu, List.take_succ_eq_append_getElem (by omega)]

/-! ### One token -/
/-- What a token that was read is. -/
structure Read (T : TK) : Prop where
  ex : ∃ l, l ≠ [] ∧ T = oneL l ∧ (oneL l).err = 0
theorem mkB_mk (l : List UInt8) : mkB l = mk l := rfl
/-- As it is printed, it stood there. -/
theorem pr_raw (l : List UInt8) (hl : l ≠ []) (he : (oneL l).err = 0) : prT (oneL l) = l.take (oneL l).len := by
  obtain ⟨b, t, rfl⟩ : ∃ b t, l = b :: t := by
    cases l with
    | nil => exact absurd rfl hl
    | cons b t => exact ⟨b, t, rfl⟩
  unfold oneL at he ⊢
  by_cases h1 : hd (b :: t) = 34
  · rw [if_pos h1] at he ⊢
    have hb : b = 34 := iv_inj (by rw [show iv b = 34 from h1]; decide)
    obtain ⟨c, e1, e2, e3, e4⟩ := text_raw _ _ _ he
    rw [e1]
    show quoteL ([] ++ c) = _
    rw [List.nil_append]
    show _ = (b :: t).take (1 + (qL c).length + 1)
    rw [show 1 + (qL c).length + 1 = ((qL c).length + 1) + 1 by omega, List.take_succ_cons, hb]
    simp only [List.drop_succ_cons, List.drop_zero] at e2
    rw [e2]; rfl
  rw [if_neg h1] at he ⊢
  by_cases h2 : digitB (hd (b :: t)) = true
  · rw [if_pos h2] at he ⊢
    have hr : 0 < runL digitB (b :: t) := run_nil_pos _ _ _ h2
    have hle := runL_le digitB (b :: t)
    unfold numT at he ⊢
    split at he
    · simp at he
    · rename_i hc
      rw [if_neg hc]
      generalize (b :: t) = l at *
      have hz : ¬ (hd l = 48 ∧ 1 < runL digitB l) := fun h => hc (by simp [h.1, h.2])
      obtain ⟨r, hrr⟩ : ∃ r, runL digitB l = r := ⟨_, rfl⟩
      rw [hrr] at hr hle hz he ⊢
      show Lib.itoa (numN (mkB (l.take r)) 32767) = l.take r
      have hf : form (mk (l.take r)) = true := by
        cases hh : form (mk (l.take r)) with
        | true => rfl
        | false => have := (numE_form (most := 32767) hh).1; rw [mkB_mk] at he; simp only at he; omega
      have hlen : (l.take r).length = r := by simp; omega
      have hm : nv (mk (l.take r)) (mk (l.take r)).size ≤ 32767 := by
        by_cases hm : nv (mk (l.take r)) (mk (l.take r)).size ≤ 32767
        · exact hm
        · have := (numE_over (most := 32767) hf (by omega)).1; rw [mkB_mk] at he; simp only at he; omega
      rw [mkB_mk, (numE_ok hf hm).2]
      have hdg := form_dgs hf
      rw [mk_size, hlen] at hdg ⊢
      have hn0 := nv_nonneg hdg
      rw [Lib.itoa, if_neg (by omega)]
      have hb0 : (l.take r).length = 1 ∨ bt (mk (l.take r)) 0 ≠ 48 := by
        by_cases h : 1 < r
        · right
          intro h48
          apply hz
          refine ⟨?_, h⟩
          rw [bt_mk _ _ (by omega)] at h48
          cases l with
          | nil => simp at hle; omega
          | cons a u =>
            show iv a = 48
            unfold iv
            have : ((a :: u).take r)[0]'(by omega) = a := by cases r with | zero => omega | succ r => rfl
            rw [this] at h48; exact h48
        · left; omega
      have := (dec_back (l.take r) (fun j hj => dgs_bd hdg (by omega)) hb0 (by omega) r hr (by omega)).1
      rw [this, List.take_take]; simp
  rw [if_neg h2] at he ⊢
  by_cases h3 : smallB (hd (b :: t)) = true
  · rw [if_pos h3] at he ⊢
    unfold wordT at he ⊢
    split
    · rfl
    · split
      · rfl
      · rfl
  rw [if_neg h3] at he ⊢
  unfold signT at he ⊢
  by_cases h4 : signL (b :: t) = 0
  · rw [if_pos h4] at he; simp at he
  · rw [if_neg h4]; rfl
/-- Read again, with nothing or a blank behind, it is the same. -/
theorem one_again (l r : List UInt8) (hl : l ≠ []) (he : (oneL l).err = 0) (hr : Behind r) : oneL (l.take (oneL l).len ++ r) = oneL l := by
  have hln := oneL_len l hl he
  have hh := hd_takeP l r _ hln.1 hl
  have hrh := behind_hd hr
  obtain ⟨b, t, rfl⟩ : ∃ b t, l = b :: t := by
    cases l with
    | nil => exact absurd rfl hl
    | cons b t => exact ⟨b, t, rfl⟩
  rw [oneL.eq_def (List.take _ _ ++ r), hh]
  unfold oneL at he hln ⊢
  by_cases h1 : hd (b :: t) = 34
  · rw [if_pos h1] at he hln ⊢
    rw [if_pos h1]
    obtain ⟨c, e1, e2, e3, e4⟩ := text_raw _ _ _ he
    simp only [List.drop_succ_cons, List.drop_zero] at e1 e2 ⊢
    have hlen : (textL t [] 1).len = (qL c).length + 1 + 1 := by rw [e1]; show 1 + (qL c).length + 1 = _; omega
    rw [hlen, List.take_succ_cons, List.cons_append, List.drop_succ_cons, List.drop_zero, e2]
    have hq := (text_quote c [] 1).1 ⟨e3, e4⟩
    rw [text_app (qL c ++ [34]) [] 1 (by rw [hq]) r, hq, e1]
  rw [if_neg h1] at he hln ⊢
  rw [if_neg h1]
  by_cases h2 : digitB (hd (b :: t)) = true
  · rw [if_pos h2] at he hln ⊢
    rw [if_pos h2]
    have hle := runL_le digitB (b :: t)
    have hlen : (numT (b :: t)).len = runL digitB (b :: t) := by unfold numT; split <;> rfl
    have hrd : r = [] ∨ digitB (hd r) = false := by
      rcases hr with h | ⟨y, h⟩
      · exact .inl h
      · right; rw [h]; show digitB (iv 32) = false; decide
    have hrun := run_take digitB r hrd (b :: t)
    have hc : ¬ ((smallB (hd ((b :: t).drop (runL digitB (b :: t)))) || greatB (hd ((b :: t).drop (runL digitB (b :: t)))) || decide (hd ((b :: t).drop (runL digitB (b :: t))) = 95)) || (decide (hd (b :: t) = 48) && decide (1 < runL digitB (b :: t)))) = true := by
      intro hc
      unfold numT at he
      rw [if_pos hc] at he; simp at he
    rw [hlen]
    unfold numT
    rw [if_neg hc, hrun, drop_app _ _ _ hle, take_app _ _ _ hle]
    have hr2 : (smallB (hd r) || greatB (hd r) || decide (hd r = 95)) = false := by rcases hrh with h | h <;> (rw [h]; decide)
    have hc2 : (decide (hd (b :: t) = 48) && decide (1 < runL digitB (b :: t))) = false := by
      cases hx : (decide (hd (b :: t) = 48) && decide (1 < runL digitB (b :: t))) with
      | false => rfl
      | true => exact absurd (by rw [hx]; simp) hc
    have hh2 : hd ((b :: t).take (runL digitB (b :: t)) ++ r) = hd (b :: t) := hd_takeP _ _ _ (run_nil_pos _ _ _ h2) hl
    rw [hh2, hr2, hc2, if_neg (by simp)]
  rw [if_neg h2] at he hln ⊢
  rw [if_neg h2]
  by_cases h3 : smallB (hd (b :: t)) = true
  · rw [if_pos h3] at he hln ⊢
    rw [if_pos h3]
    have hle := runL_le cName (b :: t)
    have hlen : (wordT (b :: t)).len = runL cName (b :: t) := by unfold wordT; split <;> first | rfl | (split <;> rfl)
    have hrd : r = [] ∨ cName (hd r) = false := by
      rcases hr with h | ⟨y, h⟩
      · exact .inl h
      · right; rw [h]; show cName (iv 32) = false; decide
    have hrun := run_take cName r hrd (b :: t)
    rw [hlen]
    unfold wordT
    rw [hrun, take_app _ _ _ hle]
  rw [if_neg h3] at he hln ⊢
  rw [if_neg h3]
  have hs0 : signL (b :: t) ≠ 0 := by
    intro h; unfold signT at he; rw [if_pos h] at he; simp at he
  have hlen : (signT (b :: t)).len = signL (b :: t) := by unfold signT; rw [if_neg hs0]
  have hle := signL_le (l := b :: t)
  rw [hlen]
  have hsg : signL ((b :: t).take (signL (b :: t)) ++ r) = signL (b :: t) := by
    have hh2 : hd ((b :: t).take (signL (b :: t)) ++ r) = hd (b :: t) := hd_takeP _ _ _ (by omega) hl
    by_cases h4 : hd ((b :: t).drop 1) = 61 ∧ (hd (b :: t) = 61 ∨ hd (b :: t) = 33 ∨ hd (b :: t) = 60 ∨ hd (b :: t) = 62)
    · have e2 : signL (b :: t) = 2 := by unfold signL; rw [if_pos h4]
      rw [e2] at hh2 hle ⊢
      cases t with
      | nil => simp at hle
      | cons c u =>
        unfold signL
        rw [hh2]
        rw [if_pos (show hd ((((b :: c :: u).take 2) ++ r).drop 1) = 61 ∧ _ from ⟨h4.1, h4.2⟩)]
    · have e1 : signL (b :: t) = 1 := by
        have := hs0
        unfold signL at this ⊢
        rw [if_neg h4] at this ⊢
        split
        · rfl
        · rename_i hx; rw [if_neg hx] at this; exact absurd rfl this
      have hm : hd (b :: t) ∈ signs1 := by
        by_cases hm : hd (b :: t) ∈ signs1
        · exact hm
        · unfold signL at e1; rw [if_neg h4, if_neg hm] at e1; omega
      rw [e1] at hh2 ⊢
      unfold signL
      rw [hh2]
      have hd1 : hd ((((b :: t).take 1) ++ r).drop 1) = hd r := rfl
      rw [hd1, if_neg (by rcases hrh with h | h <;> omega), if_pos hm]
  unfold signT
  rw [hsg, take_app _ _ _ hle]
/-- It parts nothing, and is not parted. -/
theorem no_gap (l r : List UInt8) (hl : l ≠ []) (he : (oneL l).err = 0) (hr : Behind r) : gapL (l.take (oneL l).len ++ r) false = (0, true) := by
  have hln := oneL_len l hl he
  have hag := one_again l r hl he hr
  have hrh := behind_hd hr
  obtain ⟨b, t, rfl⟩ : ∃ b t, l = b :: t := by
    cases l with
    | nil => exact absurd rfl hl
    | cons b t => exact ⟨b, t, rfl⟩
  obtain ⟨n, hn⟩ : ∃ n, (oneL (b :: t)).len = n + 1 := ⟨(oneL (b :: t)).len - 1, by omega⟩
  rw [hn, List.take_succ_cons, List.cons_append]
  have hmay : cMay (iv b) = true := by
    cases hm : cMay (iv b) with
    | true => rfl
    | false => have := (one_bad (b :: t) hm).1; omega
  have hbl : cBlank (iv b) = false := by
    cases hm : cBlank (iv b) with
    | false => rfl
    | true =>
      exfalso
      simp only [cBlank, Bool.or_eq_true, decide_eq_true_eq] at hm
      have hx : (oneL (b :: t)).err = 13 := by
        have hbh : hd (b :: t) = iv b := rfl
        have h1 : ¬ iv b ∈ signs1 := by
          intro hm2
          simp only [signs1, List.mem_cons, List.not_mem_nil, or_false] at hm2
          omega
        have hs : signL (b :: t) = 0 := by
          unfold signL
          rw [hbh, if_neg (by omega), if_neg h1]
        unfold oneL
        rw [hbh, if_neg (by omega), if_neg (by simp only [digitB, decide_eq_true_eq]; omega), if_neg (by simp only [smallB, decide_eq_true_eq]; omega)]
        unfold signT
        rw [if_pos hs]
      omega
  have hR : gapR b (t.take n ++ r) false = false := by
    unfold gapR
    rw [if_neg]
    · simp
    · rintro ⟨h47, h47'⟩
      have hbh : hd (b :: t) = 47 := h47
      have h1 : signL (b :: t) = 1 := by
        unfold signL
        rw [hbh, if_neg (by omega), if_pos (by decide)]
      have hone : oneL (b :: t) = signT (b :: t) := by
        unfold oneL
        rw [hbh, if_neg (by omega), if_neg (by decide), if_neg (by decide)]
      have hn0 : n = 0 := by
        rw [hone] at hn
        unfold signT at hn
        rw [if_neg (by omega), h1] at hn
        have : (1 : Nat) = n + 1 := hn
        omega
      subst hn0
      rw [List.take_zero, List.nil_append] at h47'
      rcases hrh with h | h <;> omega
  rw [gapL, if_neg (by rw [hmay]; simp), hR, if_pos ⟨rfl, hbl⟩]

/-! ### All of them -/
/-- Tokens with a blank between. -/
def prL : List TK → List UInt8
  | [] => []
  | T :: Ts => match Ts with
    | [] => prT T
    | _ => prT T ++ 32 :: prL Ts
/-- What stands behind a token, ahead of the rest. -/
def restL (Ts : List TK) : List UInt8 := match Ts with
  | [] => []
  | _ => 32 :: prL Ts
theorem pr_cons (T : TK) (Ts : List TK) : prL (T :: Ts) = prT T ++ restL Ts := by
  cases Ts with
  | nil => simp [prL, restL]
  | cons a t => rfl
theorem rest_behind (Ts : List TK) : Behind (restL Ts) := by
  cases Ts with
  | nil => exact .inl rfl
  | cons a t => exact .inr ⟨_, rfl⟩
/-- The answer, from what stands ahead of the tokens on. -/
theorem all_printed (s : ByteArray) : ∀ (Ts : List TK) (f q : Nat) (out : List TT), (∀ T ∈ Ts, Read T) → sfx s q = prL Ts → s.size - q < f + 1 → out.length + Ts.length < 16384 → q ≤ s.size →
    ∃ ys, restA s f q true out = ⟨ys, 0, 0, 0⟩ ∧ ys.map (·.t) = out.map (·.t) ++ Ts ++ [endT]
  | [], f, q, out => by
    intro _ hs hf hn hq
    have : s.size ≤ q := by have := sfx_len s q; rw [hs] at this; simp [prL] at this; omega
    rw [rest_end s f q out this]
    exact ⟨_, rfl, by simp⟩
  | T :: Ts, f, q, out => by
    intro hR hs hf hn hq
    obtain ⟨l, hl, hT, he⟩ := (hR T (List.mem_cons_self ..)).ex
    have hraw := pr_raw l hl he
    have hln := oneL_len l hl he
    rw [pr_cons, hT, hraw] at hs
    have hone := one_again l (restL Ts) hl he (rest_behind Ts)
    rw [← hs] at hone
    have hlen : ((l.take (oneL l).len).length) = (oneL l).len := by simp; omega
    have hsz := sfx_len s q
    rw [hs, List.length_append, hlen] at hsz
    have hlt : q < s.size := by omega
    rw [rest_more s f q out hlt (by rw [hone]; exact he) (by simp at hn; omega), hone]
    have hsn : sfx s (q + (oneL l).len) = restL Ts := by
      rw [← sfx_drop, hs]; exact drop_app _ _ _ hln.2
    obtain ⟨f', hf'⟩ : ∃ f', f = f' + 1 := ⟨f - 1, by omega⟩
    subst hf'
    rw [allA_succ, hsn]
    have hcat : ∀ c d : Int, (out ++ [(⟨oneL l, c, d⟩ : TT)]).map (·.t) = out.map (·.t) ++ [oneL l] := fun c d => by simp
    cases Ts with
    | nil =>
      show ∃ ys, restA s f' (q + (oneL l).len + 0) true _ = _ ∧ _
      have hz : s.size ≤ q + (oneL l).len + 0 := by have := sfx_len s (q + (oneL l).len); rw [hsn] at this; simp [restL] at this; omega
      rw [rest_end s f' _ _ hz]
      exact ⟨_, rfl, by simp [hT]⟩
    | cons U Us =>
      have hU : Read U := hR U (List.mem_cons_of_mem _ (List.mem_cons_self ..))
      obtain ⟨l2, hl2, hT2, he2⟩ := hU.ex
      have hg : gapL (restL (U :: Us)) false = (1, true) := by
        show gapL (32 :: prL (U :: Us)) false = _
        rw [pr_cons, hT2, pr_raw l2 hl2 he2]
        have hng := no_gap l2 (restL Us) hl2 he2 (rest_behind Us)
        have hR2 : gapR 32 (l2.take (oneL l2).len ++ restL Us) false = false := by
          unfold gapR; rw [if_neg (by rw [show iv 32 = 32 from by decide]; omega), if_neg (by decide)]
        rw [gapL, if_neg (by decide), hR2, if_neg (by decide), hng]
      rw [hg]
      have hs2 : sfx s (q + (oneL l).len + 1) = prL (U :: Us) := by rw [← sfx_drop, hsn]; rfl
      have hpos : q + (oneL l).len + 1 ≤ s.size := by
        have := sfx_len s (q + (oneL l).len); rw [hsn] at this
        have h2 : (restL (U :: Us)).length = (prL (U :: Us)).length + 1 := rfl
        omega
      obtain ⟨ys, y1, y2⟩ := all_printed s (U :: Us) f' (q + (oneL l).len + 1) (out ++ [⟨oneL l, ln s q, cl s q⟩]) (fun x hx => hR x (List.mem_cons_of_mem _ hx)) hs2 (by omega) (by simp at hn ⊢; omega) hpos
      refine ⟨ys, y1, ?_⟩
      rw [y2, hcat, hT]; simp
/-- What has been read: tokens, and how many bytes they have. -/
def lenSum : List TT → Nat
  | [] => 0
  | x :: t => x.t.len + lenSum t
theorem lenSum_app : ∀ a b : List TT, lenSum (a ++ b) = lenSum a + lenSum b
  | [], b => by simp [lenSum]
  | x :: a, b => by rw [List.cons_append, lenSum, lenSum, lenSum_app a b]; omega
theorem all_read (s : ByteArray) : ∀ (f k : Nat) (out : List TT), s.size - k < f → k ≤ s.size → (∀ x ∈ out, Read x.t) → lenSum out ≤ k → (allA s f k out).err = 0 →
    ∃ out' e, (allA s f k out).toks = out' ++ [e] ∧ e.t = endT ∧ (∀ x ∈ out', Read x.t) ∧ lenSum out' ≤ s.size
  | 0, k, out => fun h => by omega
  | f + 1, k, out => by
    intro hf hk hR hL
    rw [allA_succ]
    have hle := gapL_le (sfx s k) false
    rw [sfx_len] at hle
    obtain ⟨q, hq⟩ : ∃ q, k + (gapL (sfx s k) false).1 = q := ⟨_, rfl⟩
    rw [hq]
    cases hok : (gapL (sfx s k) false).2 with
    | false => intro h; exact absurd h (by show (13 : Int) ≠ 0; decide)
    | true =>
      by_cases hlt : q < s.size
      · by_cases he : (oneL (sfx s q)).err = 0
        · have hne : sfx s q ≠ [] := fun e => by have := sfx_len s q; rw [e] at this; simp at this; omega
          have hlen := oneL_len (sfx s q) hne he
          rw [sfx_len] at hlen
          by_cases hc : out.length = 16384
          · rw [rest_many s f q out hlt he hc]; intro h; exact absurd h (by show (7 : Int) ≠ 0; decide)
          · rw [rest_more s f q out hlt he hc]
            intro h
            exact all_read s f _ _ (by omega) (by omega) (fun x hx => by
              rcases List.mem_append.1 hx with hx | hx
              · exact hR x hx
              · rw [List.mem_singleton.1 hx]; exact ⟨_, hne, rfl, he⟩) (by rw [lenSum_app]; show lenSum out + ((oneL (sfx s q)).len + 0) ≤ _; omega) h
        · rw [(rest_bad s f q true out (fun h => by cases h) (.inr hlt) (.inr he)).2.2]
          intro h; exact absurd h he
      · rw [rest_end s f q out (by omega)]
        intro _
        exact ⟨out, _, rfl, rfl, hR, by omega⟩
theorem read_len {T : TK} (h : Read T) : (prT T).length = T.len ∧ 0 < T.len := by
  obtain ⟨l, hl, rfl, he⟩ := h.ex
  have := oneL_len l hl he
  rw [pr_raw l hl he]
  exact ⟨by simp; omega, this.1⟩
theorem pr_len : ∀ L : List TT, (∀ x ∈ L, Read x.t) → (prL (L.map (·.t))).length ≤ 2 * lenSum L ∧ L.length ≤ lenSum L
  | [], _ => by simp [prL, lenSum]
  | x :: t, h => by
    have ih := pr_len t (fun y hy => h y (List.mem_cons_of_mem _ hy))
    have hx := read_len (h x (List.mem_cons_self ..))
    rw [List.map_cons, pr_cons, List.length_append, hx.1, lenSum]
    have : (restL (t.map (·.t))).length ≤ (prL (t.map (·.t))).length + 1 := by
      cases t with
      | nil => simp [restL]
      | cons a u => exact Nat.le_refl _
    simp only [List.length_cons]; omega
/-- LexBack's law. -/
theorem back_all (s s' : ByteArray) (hs : s.size ≤ 16000) (he : (allR s).err = 0) (L : List TT) (hL : ∃ e, (allR s).toks = L ++ [e] ∧ e.t = endT) (h' : s'.data.toList = prL (L.map (·.t))) :
    s'.size ≤ 65536 ∧ (allR s').err = 0 ∧ (allR s').fl = 0 ∧ (allR s').fc = 0 ∧ (allR s').toks.map (·.t) = (allR s).toks.map (·.t) := by
  have rs : allR s = allA s (s.size + 1) 0 [] := by unfold allR; rw [if_neg (by omega)]
  rw [rs] at he hL ⊢
  obtain ⟨out', e', h1, h2, h3, h4⟩ := all_read s (s.size + 1) 0 [] (by omega) (by omega) (fun x hx => by cases hx) (by simp [lenSum]) he
  obtain ⟨e, h5, h6⟩ := hL
  rw [h1] at h5
  have hpair := List.append_inj' h5 rfl
  obtain ⟨rfl, hee⟩ := hpair
  have hpl := pr_len out' h3
  have hsz : s'.size = (prL (out'.map (·.t))).length := by have := congrArg List.length h'; simpa using this
  have hR : ∀ T ∈ out'.map (·.t), Read T := fun T hT => by
    obtain ⟨x, hx, rfl⟩ := List.mem_map.1 hT
    exact h3 x hx
  have h0 : sfx s' 0 = prL (out'.map (·.t)) := by show s'.data.toList.drop 0 = _; rw [h']; rfl
  have hg : gapL (sfx s' 0) false = (0, true) := by
    rw [h0]
    cases hc : out'.map (·.t) with
    | nil => rfl
    | cons T Ts =>
      obtain ⟨l, hl, hT, he2⟩ := (hR T (by rw [hc]; exact List.mem_cons_self ..)).ex
      rw [pr_cons, hT, pr_raw l hl he2]
      exact no_gap l _ hl he2 (rest_behind Ts)
  obtain ⟨ys, y1, y2⟩ := all_printed s' (out'.map (·.t)) s'.size 0 [] hR h0 (by omega) (by simp; omega) (by omega)
  have rs' : allR s' = ⟨ys, 0, 0, 0⟩ := by
    unfold allR
    rw [if_neg (by omega), allA_succ, hg]
    exact y1
  rw [rs']
  refine ⟨by omega, rfl, rfl, rfl, ?_⟩
  show ys.map (·.t) = _
  rw [y2, h1, List.map_append]
  simp [h2]
end Go.Proofs.YtmelilppeikdiaaDoor
