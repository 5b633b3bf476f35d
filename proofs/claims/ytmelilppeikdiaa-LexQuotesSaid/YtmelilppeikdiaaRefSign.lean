/- Contract of clewref09.sign. -/
import Derived.Test.YtmelilppeikdiaaRefFail
import Derived.BigQuiet
import Derived.Deep.QuietTactic
namespace Go.Proofs.Ytmelilppeikdiaa
open Go.RowKit Go.PlainAid

def onesB : ByteArray := ⟨#[40, 41, 123, 125, 44, 59, 46, 124, 47, 43, 45, 42, 37, 61, 60, 62]⟩
theorem ones_bt : ∀ k : Fin 16, bt onesB k.val = signs1.getD k.val 0 := by decide +kernel

/-- Two bytes as a text are one of four signs, or not. -/
theorem two_eq {s : ByteArray} {i : Nat} (h : i + 1 < s.size) (x : UInt8) : ((s.extract i (i + 2)).toList == [x, 61]) = (decide (bt s i = (x.toNat : Int)) && decide (bt s (i + 1) = 61)) := by
  rw [Lib.toList_data, ext_sfx]
  obtain ⟨b, hb, hv⟩ := sfx_cons (s := s) (k := i) (by omega)
  obtain ⟨c, hc, hw⟩ := sfx_cons (s := s) (k := i + 1) (by omega)
  have : ((sfx s i).take 2) = [b, c] := by rw [hb, hc]; rfl
  rw [this]
  show ([b, c] == [x, 61]) = _
  have e1 : (b = x) ↔ bt s i = (x.toNat : Int) := by rw [← hv]; unfold iv; rw [← UInt8.toNat_inj]; omega
  have e2 : (c = 61) ↔ bt s (i + 1) = 61 := by rw [← hw]; unfold iv; rw [← UInt8.toNat_inj]; simp; omega
  rw [Bool.eq_iff_iff]
  simp [e1, e2]

theorem ones_in : ∀ k : Fin 16, signs1.getD k.val 0 ∈ signs1 := by decide +kernel
theorem ones_at {c : Int} (h : c ∈ signs1) : ∃ j, j < 16 ∧ bt onesB j = c := by
  obtain ⟨j, hj, e⟩ := List.mem_iff_getElem.1 h
  have hl : signs1.length = 16 := rfl
  rw [hl] at hj
  refine ⟨j, hj, ?_⟩
  rw [ones_bt ⟨j, hj⟩, ← e, List.getD_eq_getElem?_getD, List.getElem?_eq_getElem (by rw [hl]; exact hj)]
  rfl

set_option maxHeartbeats 2000000 in
theorem refSign (s : ByteArray) (i : Nat) (w : World) (hi : i < s.size) (hs : s.size ≤ 1000000) : Calls Try.prog 49 #[.string s, .int .i64 i] w fun e w' => e = .returned (.int .i64 ((signL (sfx s i) : Nat) : Int)) ∧ ∃ n, w' = w.drewN n := by
  have hb := get_bt s
  have hbo : ∀ (n : Nat) (h : n < (⟨#[40, 41, 123, 125, 44, 59, 46, 124, 47, 43, 45, 42, 37, 61, 60, 62]⟩ : ByteArray).size), (((⟨#[40, 41, 123, 125, 44, 59, 46, 124, 47, 43, 45, 42, 37, 61, 60, 62]⟩ : ByteArray)[n]'h).toNat : Int) = bt onesB n := get_bt onesB
  have hS : signL (sfx s i) = if bt s (i + 1) = 61 ∧ (bt s i = 61 ∨ bt s i = 33 ∨ bt s i = 60 ∨ bt s i = 62) then 2 else if bt s i ∈ signs1 then 1 else 0 := by
    unfold signL; rw [sfx_drop, hd_sfx, hd_sfx]
  by_cases hi1 : i + 1 < s.size
  · have e1 := two_eq hi1 61
    have e2 := two_eq hi1 33
    have e3 := two_eq hi1 60
    have e4 := two_eq hi1 62
    by_cases hc : bt s (i + 1) = 61 ∧ (bt s i = 61 ∨ bt s i = 33 ∨ bt s i = 60 ∨ bt s i = 62)
    · have HN := Lib.hid (hS.trans (if_pos hc))
      obtain ⟨hd, h | h | h | h⟩ := hc
      all_goals
        rw [h, hd] at e1 e2 e3 e4
        simp at e1 e2 e3 e4
        clear h hd hS
        go_enter Try.func49, Try.ntmps49
        go_wp2
        go_ret
        exact ⟨ret_i (by rw [HN.out]; rfl), 0, rfl⟩
    · have HS2 := Lib.hid (hS.trans (if_neg hc))
      have f1 : ((s.extract i (i + 2)).toList == [61, 61]) = false := by rw [e1, Bool.and_eq_false_iff, decide_eq_false_iff_not, decide_eq_false_iff_not]; simp; omega
      have f2 : ((s.extract i (i + 2)).toList == [33, 61]) = false := by rw [e2, Bool.and_eq_false_iff, decide_eq_false_iff_not, decide_eq_false_iff_not]; simp; omega
      have f3 : ((s.extract i (i + 2)).toList == [60, 61]) = false := by rw [e3, Bool.and_eq_false_iff, decide_eq_false_iff_not, decide_eq_false_iff_not]; simp; omega
      have f4 : ((s.extract i (i + 2)).toList == [62, 61]) = false := by rw [e4, Bool.and_eq_false_iff, decide_eq_false_iff_not, decide_eq_false_iff_not]; simp; omega
      clear e1 e2 e3 e4 hc hS
      go_enter Try.func49, Try.ntmps49
      go_wp2
      go_loopw [7] (fun p wr => ∃ k n : Nat, k ≤ 16 ∧ p = .int .i64 k ∧ wr = w.drewN n ∧ Hid (∀ j, j < k → bt onesB j ≠ bt s i)) (fun p _ => 16 - (intOf p).toNat)
      case atStart => exact ⟨0, 0, by omega, rfl, rfl, Lib.hid (fun j h => absurd h (by omega))⟩
      case round =>
        obtain ⟨k, n, hk, rfl, rfl, hI⟩ := hrel
        by_cases hk16 : k < 16
        · by_cases he : bt onesB k = bt s i
          · have he' : (bt onesB k == bt s i) = true := by simp [he]
            have HN := Lib.hid (HS2.out.trans (if_pos (by rw [← he, ones_bt ⟨k, hk16⟩]; exact ones_in ⟨k, hk16⟩)))
            clear he
            go_wp2_with fail
            go_quiet (fail)
            go_wp2
            go_ret
            exact ⟨ret_i (by rw [HN.out]; rfl), _, World.drewN_drewN _ _ _⟩
          · have he' : (bt onesB k == bt s i) = false := by simp [he]
            have HI2 : Hid (∀ j, j < k + 1 → bt onesB j ≠ bt s i) := Lib.hid (fun j hj => by
              by_cases h : j < k
              · exact hI.out j h
              · have : j = k := by omega
                rw [this]; exact he)
            clear he
            go_wp2_with fail
            go_quiet (fail)
            go_wp2
            go_roundw
            case rel => exact ⟨k + 1, _, by omega, by go_num, by first | rfl | exact World.drewN_drewN _ _ _, HI2⟩
            case measure => simp [intOf]; omega
        · have HN := Lib.hid (HS2.out.trans (if_neg (fun hm => by
            obtain ⟨j, hj, e⟩ := ones_at hm
            exact hI.out j (by omega) e)))
          clear hI
          go_wp2
          go_ret
          exact ⟨ret_i (by rw [HN.out]; rfl), _, rfl⟩
  · have h0 := bt_end s (k := i + 1) (by omega)
    have HS2 := Lib.hid (hS.trans (if_neg (by rw [h0]; omega)))
    clear h0 hS
    go_enter Try.func49, Try.ntmps49
    go_wp2
    go_loopw [7] (fun p wr => ∃ k n : Nat, k ≤ 16 ∧ p = .int .i64 k ∧ wr = w.drewN n ∧ Hid (∀ j, j < k → bt onesB j ≠ bt s i)) (fun p _ => 16 - (intOf p).toNat)
    case atStart => exact ⟨0, 0, by omega, rfl, rfl, Lib.hid (fun j h => absurd h (by omega))⟩
    case round =>
      obtain ⟨k, n, hk, rfl, rfl, hI⟩ := hrel
      by_cases hk16 : k < 16
      · by_cases he : bt onesB k = bt s i
        · have he' : (bt onesB k == bt s i) = true := by simp [he]
          have HN := Lib.hid (HS2.out.trans (if_pos (by rw [← he, ones_bt ⟨k, hk16⟩]; exact ones_in ⟨k, hk16⟩)))
          clear he
          go_wp2_with fail
          go_quiet (fail)
          go_wp2
          go_ret
          exact ⟨ret_i (by rw [HN.out]; rfl), _, World.drewN_drewN _ _ _⟩
        · have he' : (bt onesB k == bt s i) = false := by simp [he]
          have HI2 : Hid (∀ j, j < k + 1 → bt onesB j ≠ bt s i) := Lib.hid (fun j hj => by
            by_cases h : j < k
            · exact hI.out j h
            · have : j = k := by omega
              rw [this]; exact he)
          clear he
          go_wp2_with fail
          go_quiet (fail)
          go_wp2
          go_roundw
          case rel => exact ⟨k + 1, _, by omega, by go_num, by first | rfl | exact World.drewN_drewN _ _ _, HI2⟩
          case measure => simp [intOf]; omega
      · have HN := Lib.hid (HS2.out.trans (if_neg (fun hm => by
          obtain ⟨j, hj, e⟩ := ones_at hm
          exact hI.out j (by omega) e)))
        clear hI
        go_wp2
        go_ret
        exact ⟨ret_i (by rw [HN.out]; rfl), _, rfl⟩
end Go.Proofs.Ytmelilppeikdiaa
