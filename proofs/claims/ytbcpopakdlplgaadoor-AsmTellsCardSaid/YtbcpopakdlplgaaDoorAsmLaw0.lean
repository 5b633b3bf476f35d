/- Normal's numbers are small. No program in sight; what reads as what. -/
import Derived.Test.YtbcpopakdlplgaaDoorAsmR
namespace Go.Proofs.YtbcpopakdlplgaaDoor
open Go.RowKit Go.PlainAid Go.Maps
set_option linter.unusedVariables false
set_option linter.unusedSimpArgs false

theorem scan_bd (l0 : List IN) : ∀ (t : List IN) (bes : Bool) (n : Int), 0 ≤ n → (∀ x ∈ (scanP l0 t bes n).1, (x ∈ t ∧ isL x = false) ∨ (x.op = 38 ∧ 0 ≤ x.arg ∧ x.arg ≤ n + t.length)) ∧ ∀ p ∈ (scanP l0 t bes n).2, -1 ≤ p.2 ∧ p.2 ≤ n + t.length
  | [], bes, n, _ => ⟨fun x hx => (by cases hx), fun p hp => (by cases hp)⟩
  | y :: t, bes, n, hn => by
    have key : ∀ (b : Bool) (m : Int), 0 ≤ m → m ≤ n + 1 → (∀ x ∈ (scanP l0 t b m).1, (x ∈ y :: t ∧ isL x = false) ∨ (x.op = 38 ∧ 0 ≤ x.arg ∧ x.arg ≤ n + (y :: t).length)) ∧ ∀ p ∈ (scanP l0 t b m).2, -1 ≤ p.2 ∧ p.2 ≤ n + (y :: t).length := fun b m h0 h1 => by
      obtain ⟨i1, i2⟩ := scan_bd l0 t b m h0
      refine ⟨fun x hx => ?_, fun p hp => ?_⟩
      · rcases i1 x hx with h | h
        · exact .inl ⟨List.mem_cons_of_mem _ h.1, h.2⟩
        · exact .inr ⟨h.1, h.2.1, by simp; omega⟩
      · have := i2 p hp
        simp; omega
    cases hL : isL y with
    | false =>
      rw [scan_a hL]
      obtain ⟨k1, k2⟩ := key false n hn (by omega)
      refine ⟨fun x hx => ?_, k2⟩
      rcases List.mem_cons.1 hx with rfl | hx
      · exact .inl ⟨List.mem_cons_self .., hL⟩
      · exact k1 x hx
    | true =>
      cases hA : askedL l0 y.arg with
      | false => rw [scan_b hL hA]; exact key bes n hn (by omega)
      | true =>
        cases bes with
        | true =>
          rw [scan_c hL hA]
          obtain ⟨k1, k2⟩ := key true n hn (by omega)
          refine ⟨k1, fun p hp => ?_⟩
          rcases List.mem_cons.1 hp with rfl | hp
          · simp; omega
          · exact k2 p hp
        | false =>
          rw [scan_d hL hA]
          obtain ⟨k1, k2⟩ := key true (n + 1) (by omega) (by omega)
          refine ⟨fun x hx => ?_, fun p hp => ?_⟩
          · rcases List.mem_cons.1 hx with rfl | hx
            · exact .inr ⟨rfl, hn, by simp; omega⟩
            · exact k1 x hx
          · rcases List.mem_cons.1 hp with rfl | hp
            · simp; omega
            · exact k2 p hp
theorem lastN_in : ∀ (ps : List (Int × Int)) (a v : Int), lastN ps a v = v ∨ ∃ p ∈ ps, p.2 = lastN ps a v
  | [], a, v => .inl rfl
  | p :: t, a, v => by
    rw [lastN]
    rcases lastN_in t a (if p.1 = a then p.2 else v) with h | ⟨q, h1, h2⟩
    · rw [h]
      split
      · exact .inr ⟨p, List.mem_cons_self .., rfl⟩
      · exact .inl rfl
    · exact .inr ⟨q, List.mem_cons_of_mem _ h1, h2⟩
theorem norm_inw {l : List IN} (h : ∀ x ∈ l, isL x = true ∨ isJ x = true ∨ InW x) (hl : l.length ≤ 1000000) : ∀ x ∈ normP l, InW x := by
  obtain ⟨h1, h2⟩ := scan_bd l l false 0 (Int.le_refl _)
  intro x hx
  unfold normP at hx
  obtain ⟨y, hy, rfl⟩ := List.mem_map.1 hx
  unfold setJ
  cases hj : isJ y with
  | true =>
    rw [if_pos rfl]
    refine ⟨by have := (isJ_op hj).1; unfold opOk at this; unfold Wf; simp only; omega, ?_⟩
    rcases lastN_in (scanP l l false 0).2 y.arg 0 with h3 | ⟨p, h3, h4⟩
    · simp only [h3]; unfold Wf; omega
    · have := h2 p h3
      simp only [← h4]; unfold Wf; omega
  | false =>
    rw [if_neg (by decide)]
    rcases h1 y hy with ⟨h3, h4⟩ | ⟨h3, h4, h5⟩
    · rcases h y h3 with h6 | h6 | h6
      · rw [h4] at h6; cases h6
      · rw [hj] at h6; cases h6
      · exact h6
    · exact ⟨by unfold Wf; omega, by unfold Wf; omega⟩
theorem norm_inl {l : List IN} (h : ∀ x ∈ l, InW x) (hl : l.length ≤ 1000000) : ∀ x ∈ normP l, InW x := norm_inw (fun x hx => .inr (.inr (h x hx))) hl
theorem insOk_w {x : IN} (h : InsOk x) : isL x = true ∨ isJ x = true ∨ InW x := by
  rcases h with h | h | ⟨h, h2, _⟩
  · exact .inl h
  · exact .inr (.inl h)
  · refine .inr (.inr ⟨by unfold opOk at h; unfold Wf; omega, by unfold Wf; omega⟩)
theorem dis_inw {b : List UInt8} {l : List IN} (hb : b.length ≤ 4000) (h : disP b = .inr l) : (∀ x ∈ l, InW x) ∧ l.length ≤ 2 * b.length + 1 := by
  obtain ⟨h1, h2, h3, h4⟩ := dis_ok h
  refine ⟨?_, h4⟩
  have := norm_inw (l := l) (fun x hx => insOk_w (h2 x hx)) (by omega)
  rw [h3] at this; exact this
theorem code_len3 {l : List IN} {b : List UInt8} (hl : l.length ≤ 1000) (h : asmP l = .inr b) : b.length ≤ 3000 := by
  unfold asmP at h
  split at h
  · have e := Sum.inr.inj h
    subst e
    have hS := (sz_ex l).choose_spec
    have h2 := code_len (farL l (sz_ex l).choose) (sz_ex l).choose l (fun i => tight_two _ _ _ hS.tight i) l [] rfl
    have h3 := posN_three (w := WI (sz_ex l).choose l) (WI_three (fun i => tight_two _ _ _ hS.tight i)) l.length
    have h4 : posN (WI (sz_ex l).choose l) ([] : List IN).length = 0 := rfl
    rw [h4] at h2
    have h5 : (codeGo (farL l (sz_ex l).choose) (sz_ex l).choose l ([] : List IN).length).length = (codeGo (farL l (sz_ex l).choose) (sz_ex l).choose l 0).length := rfl
    omega
  · cases h
theorem norm_len : ∀ (l : List IN), (normP l).length ≤ l.length := by
  intro l
  have : ∀ (t : List IN) (bes : Bool) (n : Int), (scanP l t bes n).1.length ≤ t.length := by
    intro t
    induction t with
    | nil => intro bes n; exact Nat.le_refl _
    | cons y t ih =>
      intro bes n
      cases hL : isL y with
      | false => rw [scan_a hL]; have := ih false n; simp; omega
      | true =>
        cases hA : askedL l y.arg with
        | false => rw [scan_b hL hA]; have := ih bes n; simp; omega
        | true =>
          cases bes with
          | true => rw [scan_c hL hA]; have := ih true n; simp; omega
          | false => rw [scan_d hL hA]; have := ih true (n + 1); simp; omega
  unfold normP; rw [List.length_map]; exact this l false 0
theorem decAll_err : ∀ (f : Nat) (b : List UInt8) (e : Int), decAll f b = .inl e → e ≠ 0
  | f, [], e, h => by rw [decAll_nil] at h; cases h
  | 0, c :: t, e, h => by have := Sum.inl.inj h; omega
  | f + 1, c :: t, e, h => by
    rw [decAll] at h
    cases hd : decI (c :: t) with
    | inl e' =>
      rw [hd] at h
      have h1 := Sum.inl.inj h
      subst h1
      exact dec_err_pos hd
    | inr q =>
      obtain ⟨x, k⟩ := q
      rw [hd] at h
      simp only at h
      cases hr : decAll f ((c :: t).drop k) with
      | inl e' =>
        rw [hr] at h
        have h1 := Sum.inl.inj h
        subst h1
        exact decAll_err f _ _ hr
      | inr r => rw [hr] at h; cases h
end Go.Proofs.YtbcpopakdlplgaaDoor
