/- Contracts of clewref30.fits, wrong. -/
import Derived.Test.YtbcpopakdlplgaaDoorAsmW
import Derived.Test.YtbcpopakdlplgaaDoorAsmN2
import Derived.Test.YtbcpopakdlplgaaDoorAsmC
import Derived.Test.YtbcpopakdlplgaaDoorAsmE2
namespace Go.Proofs.YtbcpopakdlplgaaDoor
open Go.RowKit Go.PlainAid Go.Maps
set_option linter.unusedVariables false
set_option linter.unusedSimpArgs false

theorem refIsC2 (n : Int) (b : Bool) (hb : decide (-32768 ≤ n ∧ n ≤ 32767) = b) (w : World) : Calls Tryd.prog 53 #[.int .i64 n] w fun e w' => e = .returned (.bool b) ∧ w = w' := by
  exact (refIs n w).mono fun e w' ⟨h1, h2⟩ => ⟨by rw [h1, is_eq, hb], h2⟩
theorem refNameY (op : Int) (h : 1 ≤ op ∧ op ≤ 38) : ∃ s : ByteArray, s.toList.isEmpty = false ∧ ∀ w : World, Calls Tryd.prog 44 #[.int .i64 op] w fun e w' => e = .returned (.string s) ∧ w = w' := by
  refine ⟨mkB (nmA op), ?_, fun w => refNameC op w⟩
  rw [mkB_toList]
  have : nmA op ≠ [] := fun e => (nmA_nil op).1 e h
  cases hn : nmA op with
  | nil => exact absurd hn this
  | cons a t => rfl
theorem refNameN (op : Int) (h : ¬ (1 ≤ op ∧ op ≤ 38)) (w : World) : Calls Tryd.prog 44 #[.int .i64 op] w fun e w' => e = .returned (.string ⟨#[]⟩) ∧ w = w' := by
  have := refNameC op w
  rw [(nmA_nil op).2 h] at this
  exact this
theorem stnd_neg (l : List IN) (a : Int) : (hasLab l a = false → stndGo a l 0 < 0) ∧ (hasLab l a = true → 0 ≤ stndGo a l 0) := by
  refine ⟨fun h => ?_, fun h => ?_⟩
  · rcases Int.lt_or_le (stndGo a l 0) 0 with h1 | h1
    · exact h1
    · obtain ⟨y, h2, h3, h4⟩ := stnd_none l 0 h1
      have := hasLab_iff.2 ⟨y, h2, h3, h4⟩
      rw [h] at this; cases this
  · obtain ⟨y, h2, h3, h4⟩ := hasLab_iff.1 h
    rcases Int.lt_or_le (stndGo a l 0) 0 with h1 | h1
    · exfalso
      have hm := stnd_bd a l 0
      have e : stndGo a l 0 = -1 := by omega
      obtain ⟨i, hi, rfl⟩ := List.getElem_of_mem h2
      have : ∀ (t : List IN) (k i : Nat) (h : i < t.length), isL t[i] = true → t[i].arg = a → (0 : Int) ≤ stndGo a t k := by
        intro t
        induction t with
        | nil => intro k i h; simp at h
        | cons x t ih =>
          intro k i h h1 h2
          rw [stndGo]
          split
          · omega
          · rename_i hx
            cases i with
            | zero => exact absurd ⟨h1, h2⟩ hx
            | succ i => exact ih (k + 1) i (by simpa using h) h1 h2
      have := this l 0 i hi h3 h4
      omega
    · exact h1
/-- What is wrong with one instruction. -/
def wrongAt (l pre : List IN) (x : IN) : Int := if isJ x = true ∧ hasLab l x.arg = false then 11 else if isL x = true ∧ hasLab pre x.arg = true then 10 else if isL x = true ∨ isJ x = true then 0 else if badI x = true then 16 else 0
theorem wrong_step (l pre t : List IN) (x : IN) : wrongGo l pre (x :: t) = if wrongAt l pre x = 0 then wrongGo l (pre ++ [x]) t else wrongAt l pre x := by
  rw [wrongGo]
  unfold wrongAt
  split
  · rw [if_neg (by decide)]
  · split
    · rw [if_neg (by decide)]
    · split
      · rw [if_pos rfl]
      · split
        · rw [if_neg (by decide)]
        · rw [if_pos rfl]
set_option maxRecDepth 100000 in
set_option maxHeartbeats 8000000 in
theorem refWrongC (v : Value) (l : List IN) (i : Nat) (w : World) (hr : Reads Cd.ins.seq w v l) (hi : i < l.length) (hl : l.length ≤ 100000) :
    Calls Tryd.prog 33 #[v, .int .i64 i] w fun e w' => e = .returned (.int .i64 (wrongAt l (l.take i) l[i])) ∧ Below w.heap.size w w' := by
  obtain ⟨ad, c, hv, hcap, hm⟩ := hr.len
  subst hv
  have HR := Lib.hid hr
  obtain ⟨b, off, ha, hblt, hw, hx0, hx1⟩ := (cells_of hr).1 i hi
  subst ha
  have hneg := stnd_neg l l[i].arg
  have hneg2 := stnd_neg (l.take i) l[i].arg
  have HS1 := Lib.hid (fun w h => standsC (.slice (some ⟨b, off, none⟩) l.length c) l l.length l[i].arg w h (Nat.le_refl _) hl)
  rw [List.take_length] at HS1
  have HS2 := Lib.hid (fun w h => standsC (.slice (some ⟨b, off, none⟩) l.length c) l i l[i].arg w h (by omega) hl)
  obtain ⟨x, hx⟩ : ∃ x, l[i] = x := ⟨_, rfl⟩
  rw [hx] at hx0 hx1 hw hneg hneg2 HS1 HS2 ⊢
  obtain ⟨p, hp⟩ : ∃ p, stndGo x.arg l 0 = p := ⟨_, rfl⟩
  obtain ⟨q, hq⟩ : ∃ q, stndGo x.arg (l.take i) 0 = q := ⟨_, rfl⟩
  rw [hp] at HS1 hneg
  rw [hq] at HS2 hneg2
  obtain ⟨n, hn⟩ : ∃ n, l.length = n := ⟨_, rfl⟩
  rw [hn] at hi hl HR hcap hm HS1 HS2 ⊢
  have hi0 : (0 : Int) ≤ (i : Int) := by omega
  have hi1 : (i : Int) < (n : Int) := by omega
  obtain ⟨W1, hW1⟩ : ∃ W, w.alloc (.cells #[.int .i64 x.op, .int .i64 x.arg] 37) = W := ⟨_, rfl⟩
  have HKc : Hid (BK W1 w.heap.size [.int .i64 x.op, .int .i64 x.arg] 37) := Lib.hid (by rw [← hW1]; exact BK.new w _ _)
  have HRc : Hid (Reads Cd.ins.seq W1 (.slice (some ⟨b, off, none⟩) n c) l) := Lib.hid (by rw [← hW1]; exact HR.out.below (bl_one w _))
  have HBc : Hid (Below w.heap.size w W1) := Lib.hid (by rw [← hW1]; exact bl_one w _)
  have k0 := HKc.out.cell 0
  have k1 := HKc.out.cell 1
  simp only [List.getElem?_cons_zero, List.getElem?_cons_succ] at k0 k1
  obtain ⟨R, hR⟩ : ∃ R, wrongAt l (l.take i) x = R := ⟨_, rfl⟩
  rw [hR]
  unfold wrongAt at hR
  clear hr hx hp hq hn
  cases hj : isJ x with
  | true =>
    have HJ := Lib.hid (fun w => jumpsC2 x true hj w)
    have h38 : (x.op == 38) = false := by unfold isJ at hj; simp at hj; rcases hj with h | h <;> simp [h]
    have hLf : isL x = false := by unfold isL; exact h38
    have HST := HS1
    cases hh : hasLab l x.arg with
    | false =>
      have hp2 := hneg.1 hh
      have HWR : Hid (R = 11) := Lib.hid (by rw [← hR]; simp [hj, hh])
      clear hneg hneg2 hR hj hh hLf
      go_enter Tryd.func33, Tryd.ntmps33
      go_wp2_with (first | (go_at_call 26; refine (HJ.out _).mono ?_; rintro e wx ⟨rfl, hbx⟩; have HKc := Lib.hid (HKc.out.below hbx); have HRc := Lib.hid (HRc.out.below hbx); have HBc := Lib.hid (bl_thenA HBc.out hbx); have k0 := HKc.out.cell 0; have k1 := HKc.out.cell 1; simp only [List.getElem?_cons_zero, List.getElem?_cons_succ] at k0 k1; clear hbx) | (go_at_call 27; refine (HST.out _ HRc.out).mono ?_; rintro e wx ⟨rfl, rfl⟩) | (go_at_call 44; refine (HNM.out _).mono ?_; rintro e wx ⟨rfl, rfl⟩) | (go_at_call 45; refine (HHA.out _).mono ?_; rintro e wx ⟨rfl, hbx⟩; have HKc := Lib.hid (HKc.out.below hbx); have HRc := Lib.hid (HRc.out.below hbx); have HBc := Lib.hid (bl_thenA HBc.out hbx); have k0 := HKc.out.cell 0; have k1 := HKc.out.cell 1; simp only [List.getElem?_cons_zero, List.getElem?_cons_succ] at k0 k1; clear hbx) | (go_at_call 53; refine (HIS.out _).mono ?_; rintro e wx ⟨rfl, rfl⟩) | (fail))
      go_ret
      exact ⟨ret_i HWR.out.symm, HBc.out⟩
    | true =>
      have hp2 := hneg.2 hh
      have HWR : Hid (R = 0) := Lib.hid (by rw [← hR]; simp [hj, hh, hLf])
      clear hneg hneg2 hR hj hh hLf
      go_enter Tryd.func33, Tryd.ntmps33
      go_wp2_with (first | (go_at_call 26; refine (HJ.out _).mono ?_; rintro e wx ⟨rfl, hbx⟩; have HKc := Lib.hid (HKc.out.below hbx); have HRc := Lib.hid (HRc.out.below hbx); have HBc := Lib.hid (bl_thenA HBc.out hbx); have k0 := HKc.out.cell 0; have k1 := HKc.out.cell 1; simp only [List.getElem?_cons_zero, List.getElem?_cons_succ] at k0 k1; clear hbx) | (go_at_call 27; refine (HST.out _ HRc.out).mono ?_; rintro e wx ⟨rfl, rfl⟩) | (go_at_call 44; refine (HNM.out _).mono ?_; rintro e wx ⟨rfl, rfl⟩) | (go_at_call 45; refine (HHA.out _).mono ?_; rintro e wx ⟨rfl, hbx⟩; have HKc := Lib.hid (HKc.out.below hbx); have HRc := Lib.hid (HRc.out.below hbx); have HBc := Lib.hid (bl_thenA HBc.out hbx); have k0 := HKc.out.cell 0; have k1 := HKc.out.cell 1; simp only [List.getElem?_cons_zero, List.getElem?_cons_succ] at k0 k1; clear hbx) | (go_at_call 53; refine (HIS.out _).mono ?_; rintro e wx ⟨rfl, rfl⟩) | (fail))
      go_ret
      exact ⟨ret_i HWR.out.symm, HBc.out⟩
  | false =>
    have HJ := Lib.hid (fun w => jumpsC2 x false hj w)
    cases hL : isL x with
    | true =>
      have h38 : (x.op == 38) = true := by unfold isL at hL; exact hL
      have HST := HS2
      cases hh : hasLab (l.take i) x.arg with
      | true =>
        have hq2 := hneg2.2 hh
        have HWR : Hid (R = 10) := Lib.hid (by rw [← hR]; simp [hj, hL, hh])
        clear hneg hneg2 hR hj hh hL
        go_enter Tryd.func33, Tryd.ntmps33
        go_wp2_with (first | (go_at_call 26; refine (HJ.out _).mono ?_; rintro e wx ⟨rfl, hbx⟩; have HKc := Lib.hid (HKc.out.below hbx); have HRc := Lib.hid (HRc.out.below hbx); have HBc := Lib.hid (bl_thenA HBc.out hbx); have k0 := HKc.out.cell 0; have k1 := HKc.out.cell 1; simp only [List.getElem?_cons_zero, List.getElem?_cons_succ] at k0 k1; clear hbx) | (go_at_call 27; refine (HST.out _ HRc.out).mono ?_; rintro e wx ⟨rfl, rfl⟩) | (go_at_call 44; refine (HNM.out _).mono ?_; rintro e wx ⟨rfl, rfl⟩) | (go_at_call 45; refine (HHA.out _).mono ?_; rintro e wx ⟨rfl, hbx⟩; have HKc := Lib.hid (HKc.out.below hbx); have HRc := Lib.hid (HRc.out.below hbx); have HBc := Lib.hid (bl_thenA HBc.out hbx); have k0 := HKc.out.cell 0; have k1 := HKc.out.cell 1; simp only [List.getElem?_cons_zero, List.getElem?_cons_succ] at k0 k1; clear hbx) | (go_at_call 53; refine (HIS.out _).mono ?_; rintro e wx ⟨rfl, rfl⟩) | (fail))
        go_ret
        exact ⟨ret_i HWR.out.symm, HBc.out⟩
      | false =>
        have hq2 := hneg2.1 hh
        have HWR : Hid (R = 0) := Lib.hid (by rw [← hR]; simp [hj, hL, hh])
        clear hneg hneg2 hR hj hh hL
        go_enter Tryd.func33, Tryd.ntmps33
        go_wp2_with (first | (go_at_call 26; refine (HJ.out _).mono ?_; rintro e wx ⟨rfl, hbx⟩; have HKc := Lib.hid (HKc.out.below hbx); have HRc := Lib.hid (HRc.out.below hbx); have HBc := Lib.hid (bl_thenA HBc.out hbx); have k0 := HKc.out.cell 0; have k1 := HKc.out.cell 1; simp only [List.getElem?_cons_zero, List.getElem?_cons_succ] at k0 k1; clear hbx) | (go_at_call 27; refine (HST.out _ HRc.out).mono ?_; rintro e wx ⟨rfl, rfl⟩) | (go_at_call 44; refine (HNM.out _).mono ?_; rintro e wx ⟨rfl, rfl⟩) | (go_at_call 45; refine (HHA.out _).mono ?_; rintro e wx ⟨rfl, hbx⟩; have HKc := Lib.hid (HKc.out.below hbx); have HRc := Lib.hid (HRc.out.below hbx); have HBc := Lib.hid (bl_thenA HBc.out hbx); have k0 := HKc.out.cell 0; have k1 := HKc.out.cell 1; simp only [List.getElem?_cons_zero, List.getElem?_cons_succ] at k0 k1; clear hbx) | (go_at_call 53; refine (HIS.out _).mono ?_; rintro e wx ⟨rfl, rfl⟩) | (fail))
        go_ret
        exact ⟨ret_i HWR.out.symm, HBc.out⟩
    | false =>
      have h38 : (x.op == 38) = false := by unfold isL at hL; exact hL
      have h38' : x.op ≠ 38 := by simpa using h38
      have hR2 : (if badI x = true then 16 else 0) = R := by rw [← hR]; simp [hj, hL]
      by_cases hk : 1 ≤ x.op ∧ x.op ≤ 38
      · obtain ⟨s, hs, hsN⟩ := refNameY x.op hk
        have HNM := Lib.hid hsN
        cases hA : hasA x.op with
        | true =>
          have HHA := Lib.hid (fun w => refHasC2 x.op true hA w)
          by_cases hI : -32768 ≤ x.arg ∧ x.arg ≤ 32767
          · have HIS := Lib.hid (fun w => refIsC2 x.arg true (by simp; omega) w)
            have HWR : Hid (R = 0) := Lib.hid (by rw [← hR2, badI_not ⟨⟨hk.1, by omega⟩, hI, fun h => by rw [hA] at h; cases h⟩]; rfl)
            clear hneg hneg2 hR hR2 hj hL hA hsN hk hI h38'
            go_enter Tryd.func33, Tryd.ntmps33
            go_wp2_with (first | (go_at_call 26; refine (HJ.out _).mono ?_; rintro e wx ⟨rfl, hbx⟩; have HKc := Lib.hid (HKc.out.below hbx); have HRc := Lib.hid (HRc.out.below hbx); have HBc := Lib.hid (bl_thenA HBc.out hbx); have k0 := HKc.out.cell 0; have k1 := HKc.out.cell 1; simp only [List.getElem?_cons_zero, List.getElem?_cons_succ] at k0 k1; clear hbx) | (go_at_call 27; refine (HST.out _ HRc.out).mono ?_; rintro e wx ⟨rfl, rfl⟩) | (go_at_call 44; refine (HNM.out _).mono ?_; rintro e wx ⟨rfl, rfl⟩) | (go_at_call 45; refine (HHA.out _).mono ?_; rintro e wx ⟨rfl, hbx⟩; have HKc := Lib.hid (HKc.out.below hbx); have HRc := Lib.hid (HRc.out.below hbx); have HBc := Lib.hid (bl_thenA HBc.out hbx); have k0 := HKc.out.cell 0; have k1 := HKc.out.cell 1; simp only [List.getElem?_cons_zero, List.getElem?_cons_succ] at k0 k1; clear hbx) | (go_at_call 53; refine (HIS.out _).mono ?_; rintro e wx ⟨rfl, rfl⟩) | (fail))
            go_ret
            exact ⟨ret_i HWR.out.symm, HBc.out⟩
          · have HIS := Lib.hid (fun w => refIsC2 x.arg false (by simp; omega) w)
            have HWR : Hid (R = 16) := Lib.hid (by
              rw [← hR2, if_pos]
              cases hb : badI x with
              | true => rfl
              | false => exact absurd (badI_ok hb).2.1 hI)
            clear hneg hneg2 hR hR2 hj hL hA hsN hk hI h38'
            go_enter Tryd.func33, Tryd.ntmps33
            go_wp2_with (first | (go_at_call 26; refine (HJ.out _).mono ?_; rintro e wx ⟨rfl, hbx⟩; have HKc := Lib.hid (HKc.out.below hbx); have HRc := Lib.hid (HRc.out.below hbx); have HBc := Lib.hid (bl_thenA HBc.out hbx); have k0 := HKc.out.cell 0; have k1 := HKc.out.cell 1; simp only [List.getElem?_cons_zero, List.getElem?_cons_succ] at k0 k1; clear hbx) | (go_at_call 27; refine (HST.out _ HRc.out).mono ?_; rintro e wx ⟨rfl, rfl⟩) | (go_at_call 44; refine (HNM.out _).mono ?_; rintro e wx ⟨rfl, rfl⟩) | (go_at_call 45; refine (HHA.out _).mono ?_; rintro e wx ⟨rfl, hbx⟩; have HKc := Lib.hid (HKc.out.below hbx); have HRc := Lib.hid (HRc.out.below hbx); have HBc := Lib.hid (bl_thenA HBc.out hbx); have k0 := HKc.out.cell 0; have k1 := HKc.out.cell 1; simp only [List.getElem?_cons_zero, List.getElem?_cons_succ] at k0 k1; clear hbx) | (go_at_call 53; refine (HIS.out _).mono ?_; rintro e wx ⟨rfl, rfl⟩) | (fail))
            go_ret
            exact ⟨ret_i HWR.out.symm, HBc.out⟩
        | false =>
          have HHA := Lib.hid (fun w => refHasC2 x.op false hA w)
          by_cases h0 : x.arg = 0
          · have hz : (x.arg != 0) = false := by simp [h0]
            have HIS := Lib.hid (fun w => refIsC2 x.arg true (by simp; omega) w)
            have HWR : Hid (R = 0) := Lib.hid (by rw [← hR2, badI_not ⟨⟨hk.1, by omega⟩, by omega, fun _ => h0⟩]; rfl)
            clear hneg hneg2 hR hR2 hj hL hA hsN hk h0 h38'
            go_enter Tryd.func33, Tryd.ntmps33
            go_wp2_with (first | (go_at_call 26; refine (HJ.out _).mono ?_; rintro e wx ⟨rfl, hbx⟩; have HKc := Lib.hid (HKc.out.below hbx); have HRc := Lib.hid (HRc.out.below hbx); have HBc := Lib.hid (bl_thenA HBc.out hbx); have k0 := HKc.out.cell 0; have k1 := HKc.out.cell 1; simp only [List.getElem?_cons_zero, List.getElem?_cons_succ] at k0 k1; clear hbx) | (go_at_call 27; refine (HST.out _ HRc.out).mono ?_; rintro e wx ⟨rfl, rfl⟩) | (go_at_call 44; refine (HNM.out _).mono ?_; rintro e wx ⟨rfl, rfl⟩) | (go_at_call 45; refine (HHA.out _).mono ?_; rintro e wx ⟨rfl, hbx⟩; have HKc := Lib.hid (HKc.out.below hbx); have HRc := Lib.hid (HRc.out.below hbx); have HBc := Lib.hid (bl_thenA HBc.out hbx); have k0 := HKc.out.cell 0; have k1 := HKc.out.cell 1; simp only [List.getElem?_cons_zero, List.getElem?_cons_succ] at k0 k1; clear hbx) | (go_at_call 53; refine (HIS.out _).mono ?_; rintro e wx ⟨rfl, rfl⟩) | (fail))
            go_ret
            exact ⟨ret_i HWR.out.symm, HBc.out⟩
          · have hz : (x.arg != 0) = true := by simp [h0]
            have HWR : Hid (R = 16) := Lib.hid (by
              rw [← hR2, if_pos]
              cases hb : badI x with
              | true => rfl
              | false => exact absurd ((badI_ok hb).2.2 hA) h0)
            clear hneg hneg2 hR hR2 hj hL hA hsN hk h0 h38'
            go_enter Tryd.func33, Tryd.ntmps33
            go_wp2_with (first | (go_at_call 26; refine (HJ.out _).mono ?_; rintro e wx ⟨rfl, hbx⟩; have HKc := Lib.hid (HKc.out.below hbx); have HRc := Lib.hid (HRc.out.below hbx); have HBc := Lib.hid (bl_thenA HBc.out hbx); have k0 := HKc.out.cell 0; have k1 := HKc.out.cell 1; simp only [List.getElem?_cons_zero, List.getElem?_cons_succ] at k0 k1; clear hbx) | (go_at_call 27; refine (HST.out _ HRc.out).mono ?_; rintro e wx ⟨rfl, rfl⟩) | (go_at_call 44; refine (HNM.out _).mono ?_; rintro e wx ⟨rfl, rfl⟩) | (go_at_call 45; refine (HHA.out _).mono ?_; rintro e wx ⟨rfl, hbx⟩; have HKc := Lib.hid (HKc.out.below hbx); have HRc := Lib.hid (HRc.out.below hbx); have HBc := Lib.hid (bl_thenA HBc.out hbx); have k0 := HKc.out.cell 0; have k1 := HKc.out.cell 1; simp only [List.getElem?_cons_zero, List.getElem?_cons_succ] at k0 k1; clear hbx) | (go_at_call 53; refine (HIS.out _).mono ?_; rintro e wx ⟨rfl, rfl⟩) | (fail))
            go_ret
            exact ⟨ret_i HWR.out.symm, HBc.out⟩
      · have HNM := Lib.hid (fun w => refNameN x.op hk w)
        have HWR : Hid (R = 16) := Lib.hid (by
          rw [← hR2, if_pos]
          cases hb : badI x with
          | true => rfl
          | false => have := (badI_ok hb).1; unfold opOk at this; omega)
        clear hneg hneg2 hR hR2 hj hL hk h38'
        go_enter Tryd.func33, Tryd.ntmps33
        go_wp2_with (first | (go_at_call 26; refine (HJ.out _).mono ?_; rintro e wx ⟨rfl, hbx⟩; have HKc := Lib.hid (HKc.out.below hbx); have HRc := Lib.hid (HRc.out.below hbx); have HBc := Lib.hid (bl_thenA HBc.out hbx); have k0 := HKc.out.cell 0; have k1 := HKc.out.cell 1; simp only [List.getElem?_cons_zero, List.getElem?_cons_succ] at k0 k1; clear hbx) | (go_at_call 27; refine (HST.out _ HRc.out).mono ?_; rintro e wx ⟨rfl, rfl⟩) | (go_at_call 44; refine (HNM.out _).mono ?_; rintro e wx ⟨rfl, rfl⟩) | (go_at_call 45; refine (HHA.out _).mono ?_; rintro e wx ⟨rfl, hbx⟩; have HKc := Lib.hid (HKc.out.below hbx); have HRc := Lib.hid (HRc.out.below hbx); have HBc := Lib.hid (bl_thenA HBc.out hbx); have k0 := HKc.out.cell 0; have k1 := HKc.out.cell 1; simp only [List.getElem?_cons_zero, List.getElem?_cons_succ] at k0 k1; clear hbx) | (go_at_call 53; refine (HIS.out _).mono ?_; rintro e wx ⟨rfl, rfl⟩) | (fail))
        go_ret
        exact ⟨ret_i HWR.out.symm, HBc.out⟩
end Go.Proofs.YtbcpopakdlplgaaDoor
