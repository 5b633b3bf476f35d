/- Contract of clewref09.gap. -/
import Derived.Test.YtmelilppeikdiaaRefLex
namespace Go.Proofs.Ytmelilppeikdiaa
open Go.RowKit Go.PlainAid

theorem ret_ib' {a a' : Int} {b b' : Bool} (h : a = a') (h' : b = b') : Ending.returned (.tuple #[.int .i64 a, .bool b]) = .returned (.tuple #[.int .i64 a', .bool b']) := by rw [h, h']

theorem gap_step {b : UInt8} {t : List UInt8} {rm : Bool} (hm : cMay (iv b) = true) (hn : ¬ (gapR b t rm = false ∧ cBlank (iv b) = false)) : gapL (b :: t) rm = ((gapL t (gapR b t rm)).1 + 1, (gapL t (gapR b t rm)).2) := by
  rw [gapL, if_neg (by rw [hm]; simp), if_neg hn]
theorem gap_here {b : UInt8} {t : List UInt8} {rm : Bool} (hm : cMay (iv b) = true) (hn : gapR b t rm = false ∧ cBlank (iv b) = false) : gapL (b :: t) rm = (0, true) := by
  rw [gapL, if_neg (by rw [hm]; simp), if_pos hn]

set_option maxHeartbeats 2000000 in
theorem refGap (s : ByteArray) (i : Nat) (w : World) (hi : i ≤ s.size) (hs : s.size ≤ 1000000) : Calls Try.prog 24 #[.string s, .int .i64 i] w fun e w' => e = .returned (.tuple #[.int .i64 (((i + (gapL (sfx s i) false).1 : Nat)) : Int), .bool (gapL (sfx s i) false).2]) ∧ w = w' := by
  have hb := get_bt s
  obtain ⟨J, hJ⟩ : ∃ J, i + (gapL (sfx s i) false).1 = J := ⟨_, rfl⟩
  obtain ⟨OK, hOK⟩ : ∃ b, (gapL (sfx s i) false).2 = b := ⟨_, rfl⟩
  rw [hJ, hOK]
  have HJ := Lib.hid (show i + (gapL (sfx s i) false).1 = J ∧ (gapL (sfx s i) false).2 = OK from ⟨hJ, hOK⟩)
  clear hJ hOK
  go_enter Try.func24, Try.ntmps24
  go_wp2
  go_loop [1, 6] (fun p r => ∃ (k : Nat) (rm : Bool), k ≤ s.size ∧ p = .int .i64 k ∧ r = .bool rm ∧ Hid (k + (gapL (sfx s k) rm).1 = J ∧ (gapL (sfx s k) rm).2 = OK)) (fun p _ => s.size - (intOf p).toNat)
  case atStart => exact ⟨i, false, hi, rfl, rfl, HJ⟩
  case round =>
    obtain ⟨k, rm, hk, rfl, rfl, hI⟩ := hrel
    by_cases hlt : k < s.size
    · obtain ⟨b, hsf, hbv⟩ := sfx_cons hlt
      have hd' := hd_sfx s (k + 1)
      have hc0 := bt_nonneg s k
      have hc1 := bt_le s k
      have hend : bt s (k + 1) = 47 → k + 1 < s.size := by
        intro h
        by_cases h2 : k + 1 < s.size
        · exact h2
        · rw [bt_end s (by omega)] at h; omega
      have HE := Lib.hid hend
      have HS := Lib.hid hsf
      have HB := Lib.hid hbv
      have HD := Lib.hid hd'
      clear hend hsf hbv hd'
      cases hm : cMay (bt s k) with
      | false =>
        have hz : (k : Int) = J ∧ false = OK := by
          have := hI.out
          rw [HS.out, gapL, if_pos (by rw [HB.out]; exact hm)] at this
          exact ⟨by omega, this.2⟩
        have HZ := Lib.hid hz
        have HM := Lib.hid hm
        clear hz hm hI
        go_wp2_with (go_at_call 43; refine (refMay _ _).mono ?_; rintro e w' ⟨rfl, rfl⟩; rw [HM.out])
        go_ret2
        exact ⟨ret_ib' HZ.out.1 HZ.out.2, rfl⟩
      | true =>
        have HM := Lib.hid hm
        by_cases hA : bt s k = 47 ∧ bt s (k + 1) = 47
        · have hI2 : Hid (k + 1 + (gapL (sfx s (k + 1)) true).1 = J ∧ (gapL (sfx s (k + 1)) true).2 = OK) := Lib.hid (by
            have hR : gapR b (sfx s (k + 1)) rm = true := by unfold gapR; rw [HB.out, HD.out, if_pos hA]
            have := hI.out
            rw [HS.out, gap_step (by rw [HB.out]; exact hm) (by rw [hR]; simp), hR] at this
            exact ⟨by have := this.1; simp only at this; omega, this.2⟩)
          have hk1 := HE.out hA.2
          have h47 : (bt s k == 47) = true := by simp [hA.1]
          have hd47 : (bt s (k + 1) == 47) = true := by simp [hA.2]
          have h10 : (bt s k == 10) = false := by simp [hA.1]
          clear hm hI hA
          go_wp2_with (go_at_call 43; refine (refMay _ _).mono ?_; rintro e w' ⟨rfl, rfl⟩; rw [HM.out])
          go_round
          case rel => exact ⟨k + 1, true, hlt, by go_num, rfl, hI2⟩
          case measure => simp [intOf]; omega
        · have HA := Lib.hid hA
          have hR0 : gapR b (sfx s (k + 1)) rm = if bt s k = 10 then false else rm := by unfold gapR; rw [HB.out, HD.out, if_neg hA]
          have HR0 := Lib.hid hR0
          clear hR0 hA
          by_cases h10 : bt s k = 10
          · have hR : gapR b (sfx s (k + 1)) rm = false := by rw [HR0.out, if_pos h10]
            have hI2 : Hid (k + 1 + (gapL (sfx s (k + 1)) false).1 = J ∧ (gapL (sfx s (k + 1)) false).2 = OK) := Lib.hid (by
              have := hI.out
              rw [HS.out, gap_step (by rw [HB.out]; exact hm) (by rw [hR, HB.out, h10]; simp [cBlank]), hR] at this
              exact ⟨by have := this.1; simp only at this; omega, this.2⟩)
            have h47 : (bt s k == 47) = false := by simp [h10]
            have hn32 : (bt s k != 32) = true := by simp [h10]
            have hn10 : (bt s k != 10) = false := by simp [h10]
            have h10' : (bt s k == 10) = true := by simp [h10]
            clear hm hI hR h10
            go_wp2_with (go_at_call 43; refine (refMay _ _).mono ?_; rintro e w' ⟨rfl, rfl⟩; rw [HM.out])
            all_goals
              go_round
              case rel => exact ⟨k + 1, false, hlt, by go_num, rfl, hI2⟩
              case measure => simp [intOf]; omega
          · have hR : gapR b (sfx s (k + 1)) rm = rm := by rw [HR0.out, if_neg h10]
            have h10' : (bt s k == 10) = false := by simp [h10]
            have hn10 : (bt s k != 10) = true := by simp [h10]
            cases rm with
            | true =>
              have hI2 : Hid (k + 1 + (gapL (sfx s (k + 1)) true).1 = J ∧ (gapL (sfx s (k + 1)) true).2 = OK) := Lib.hid (by
                have := hI.out
                rw [HS.out, gap_step (by rw [HB.out]; exact hm) (by rw [hR]; simp), hR] at this
                exact ⟨by have := this.1; simp only at this; omega, this.2⟩)
              clear hm hI hR h10
              go_wp2_with (go_at_call 43; refine (refMay _ _).mono ?_; rintro e w' ⟨rfl, rfl⟩; rw [HM.out])
              all_goals
                go_round
                case rel => exact ⟨k + 1, true, hlt, by go_num, rfl, hI2⟩
                case measure => simp [intOf]; omega
            | false =>
              cases hbl : cBlank (bt s k) with
              | true =>
                have hI2 : Hid (k + 1 + (gapL (sfx s (k + 1)) false).1 = J ∧ (gapL (sfx s (k + 1)) false).2 = OK) := Lib.hid (by
                  have := hI.out
                  rw [HS.out, gap_step (by rw [HB.out]; exact hm) (by rw [HB.out, hbl]; simp), hR] at this
                  exact ⟨by have := this.1; simp only at this; omega, this.2⟩)
                have hbl' : bt s k = 32 ∨ bt s k = 9 := by
                  simp only [cBlank, Bool.or_eq_true, decide_eq_true_eq] at hbl; omega
                have h47 : (bt s k == 47) = false := by simp; omega
                rcases hbl' with h | h
                · have hn32 : (bt s k != 32) = false := by simp [h]
                  clear hm hI hR h10 hbl h
                  go_wp2_with (go_at_call 43; refine (refMay _ _).mono ?_; rintro e w' ⟨rfl, rfl⟩; rw [HM.out])
                  all_goals
                    go_round
                    case rel => exact ⟨k + 1, false, hlt, by go_num, rfl, hI2⟩
                    case measure => simp [intOf]; omega
                · have hn32 : (bt s k != 32) = true := by simp [h]
                  have hn9 : (bt s k != 9) = false := by simp [h]
                  clear hm hI hR h10 hbl h
                  go_wp2_with (go_at_call 43; refine (refMay _ _).mono ?_; rintro e w' ⟨rfl, rfl⟩; rw [HM.out])
                  all_goals
                    go_round
                    case rel => exact ⟨k + 1, false, hlt, by go_num, rfl, hI2⟩
                    case measure => simp [intOf]; omega
              | false =>
                have hz : (k : Int) = J ∧ true = OK := by
                  have := hI.out
                  rw [HS.out, gap_here (by rw [HB.out]; exact hm) ⟨hR, by rw [HB.out]; exact hbl⟩] at this
                  exact ⟨by omega, this.2⟩
                have HZ := Lib.hid hz
                have hn : (bt s k != 32) = true ∧ (bt s k != 9) = true := by
                  simp only [cBlank, Bool.or_eq_false_iff, decide_eq_false_iff_not] at hbl
                  simp; omega
                have hn32 := hn.1
                have hn9 := hn.2
                clear hm hI hR h10 hbl hz hn
                by_cases h47 : bt s k = 47
                · have h47' : (bt s k == 47) = true := by simp [h47]
                  have hd47 : (bt s (k + 1) == 47) = false := by simp; exact fun h => HA.out ⟨h47, h⟩
                  clear h47
                  go_wp2_with (go_at_call 43; refine (refMay _ _).mono ?_; rintro e w' ⟨rfl, rfl⟩; rw [HM.out])
                  all_goals
                    go_ret2
                    exact ⟨ret_ib' HZ.out.1 HZ.out.2, rfl⟩
                · have h47' : (bt s k == 47) = false := by simp [h47]
                  clear h47
                  go_wp2_with (go_at_call 43; refine (refMay _ _).mono ?_; rintro e w' ⟨rfl, rfl⟩; rw [HM.out])
                  all_goals
                    go_ret2
                    exact ⟨ret_ib' HZ.out.1 HZ.out.2, rfl⟩
    · have hz : (k : Int) = J ∧ true = OK := by
        have := hI.out
        rw [sfx_nil (by omega)] at this
        exact ⟨by have := this.1; simp [gapL] at this; omega, by have := this.2; simp [gapL] at this; exact this.symm⟩
      have HZ := Lib.hid hz
      clear hz hI
      go_wp2
      go_ret2
      exact ⟨ret_ib' HZ.out.1 HZ.out.2, rfl⟩
end Go.Proofs.Ytmelilppeikdiaa
