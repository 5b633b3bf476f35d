/- Contracts of num.Number, num.Parse, clewref01.Parse. -/
import Derived.Test.YtmelilppeikdiaaDoorNumNumber
namespace Go.Proofs.YtmelilppeikdiaaDoor
open Go.RowKit Go.PlainAid

theorem wrap_u64_le (n : Int) : IntKind.u64.wrap n ≤ 18446744073709551615 := by rw [IntKind.wrap_u64]; omega

theorem numNumber_empty (most : Int) (w : World) : Calls Tryd.prog 48 #[.string ByteArray.empty, .int .u64 most] w fun e w' => e = .returned (.tuple #[.int .u64 (numN ByteArray.empty most), .int .i64 (numE ByteArray.empty most)]) ∧ w = w' := by
  have H := Lib.hid (numE_form (s := ByteArray.empty) (most := most) (form_no0 rfl))
  go_enter Tryd.func48, Tryd.ntmps48
  go_wp2
  go_ret2
  exact ⟨ret_ii H.out.2.symm H.out.1.symm, rfl⟩
theorem numNumber_zero (s : ByteArray) (most : Int) (w : World) (hs : s.size ≤ maxLen) (hz : 1 < s.size) (h48 : bt s 0 = 48) : Calls Tryd.prog 48 #[.string s, .int .u64 most] w fun e w' => e = .returned (.tuple #[.int .u64 (numN s most), .int .i64 (numE s most)]) ∧ w = w' := by
  unfold maxLen at hs
  have H := Lib.hid (numE_form (most := most) (form_no48 hz h48))
  have h1 := toList_ne (s := s) (by omega)
  have h2 := toList_ne' (s := s) (by omega)
  have h3 := (ext01 (s := s) (by omega)).2 h48
  have h4 : (s.toList == [48]) = false := by rw [beq_eq_false_iff_ne]; intro h; have := (one48 (s := s) (by omega)).1 h; omega
  clear h48
  go_enter Tryd.func48, Tryd.ntmps48
  go_wp2
  go_ret2
  exact ⟨ret_ii H.out.2.symm H.out.1.symm, rfl⟩

set_option maxHeartbeats 1600000 in
theorem numNumber_loop (s : ByteArray) (most : Int) (w : World) (hs : s.size ≤ maxLen) (h0 : 0 ≤ most) (h1 : most ≤ 18446744073709551615) (hz : 0 < s.size) (hc : ¬ (1 < s.size ∧ bt s 0 = 48)) : Calls Tryd.prog 48 #[.string s, .int .u64 most] w fun e w' => e = .returned (.tuple #[.int .u64 (numN s most), .int .i64 (numE s most)]) ∧ w = w' := by
  have hf : form s = dgs s s.size := form_at hz hc
  have HN := Lib.hid (fun (h : dgs s s.size = false) => numE_form (most := most) (hf.trans h))
  have HO := Lib.hid (fun (h : dgs s s.size = true) (h' : most < nv s s.size) => numE_over (hf.trans h) h')
  have HK := Lib.hid (fun (h : dgs s s.size = true) (h' : nv s s.size ≤ most) => numE_ok (hf.trans h) h')
  unfold maxLen at hs
  have hb := get_bt s
  have e1 := toList_ne hz
  have e2 := toList_ne' hz
  have HB := Lib.hid (ext01 hz)
  have H1 := Lib.hid (one48 hz)
  have HC := Lib.hid hc
  clear hf hc
  by_cases h48 : bt s 0 = 48
  · have h3 := HB.out.2 h48
    have h4 : (s.toList == [48]) = true := by rw [beq_iff_eq]; exact H1.out.2 ⟨by have := HC.out; have : ¬ 1 < s.size := fun a => this ⟨a, h48⟩; omega, h48⟩
    clear h48
    go_enter Tryd.func48, Tryd.ntmps48
    go_wp2
    go_loop [6, 7, 23] (fun n o i => ∃ (k : Nat) (N : Int) (O : Bool), k ≤ s.size ∧ i = .int .i64 k ∧ n = .int .u64 N ∧ o = .bool O ∧ dgs s k = true ∧ 0 ≤ N ∧ N ≤ 18446744073709551615 ∧ Hid (O = false → N = nv s k ∧ nv s k ≤ most) ∧ Hid (O = true → most < nv s k)) (fun _ _ i => s.size - (intOf i).toNat)
    case atStart => exact ⟨0, 0, false, Nat.zero_le _, rfl, rfl, rfl, rfl, Int.le_refl _, by omega, Lib.hid (fun _ => ⟨rfl, h0⟩), Lib.hid (fun h => by cases h)⟩
    case round =>
      obtain ⟨k, N, O, hk, rfl, rfl, rfl, hd, hN0, hN1, HF, HT⟩ := hrel
      by_cases hlt : k < s.size
      · rcases (show bt s k < 48 ∨ 57 < bt s k ∨ (48 ≤ bt s k ∧ bt s k ≤ 57) by omega) with c | c | c
        · have hno := Lib.hid (HN.out (dgs_no (s := s) hlt (by omega)))
          go_wp2
          go_ret2
          exact ⟨ret_ii hno.out.2.symm hno.out.1.symm, rfl⟩
        · have hno := Lib.hid (HN.out (dgs_no (s := s) hlt (by omega)))
          have hb8 := bt_le s k
          go_wp2
          go_ret2
          exact ⟨ret_ii hno.out.2.symm hno.out.1.symm, rfl⟩
        · have hst := Lib.hid (show nv s (k + 1) = 10 * nv s k + (bt s k - 48) from rfl)
          have hdn := Lib.hid (show dgs s (k + 1) = true by simp only [dgs, hd, Bool.true_and]; simpa using c)
          have hn0 := Lib.hid (nv_nonneg hd)
          cases O with
          | true =>
            have hgt := Lib.hid (HT.out rfl)
            go_wp2
            go_round
            case rel => exact ⟨k + 1, _, true, by omega, by go_num, rfl, rfl, hdn.out, wrap_u64_pos _, wrap_u64_le _, Lib.hid (fun h => by cases h), Lib.hid (fun _ => by have := hgt.out; have := hst.out; have := hn0.out; omega)⟩
            case measure => simp [intOf]; omega
          | false =>
            obtain ⟨hNe, hle⟩ := HF.out rfl
            have HNe := Lib.hid hNe
            clear hNe
            by_cases cD : most < bt s k - 48
            · go_wp2
              go_round
              case rel => exact ⟨k + 1, _, true, by omega, by go_num, rfl, rfl, hdn.out, wrap_u64_pos _, wrap_u64_le _, Lib.hid (fun h => by cases h), Lib.hid (fun _ => by have := hst.out; have := hn0.out; omega)⟩
              case measure => simp [intOf]; omega
            · by_cases cB : (most - (bt s k - 48)) / 10 < N
              · go_wp2
                go_round
                case rel => exact ⟨k + 1, _, true, by omega, by go_num, rfl, rfl, hdn.out, wrap_u64_pos _, wrap_u64_le _, Lib.hid (fun h => by cases h), Lib.hid (fun _ => by have := hst.out; have := HNe.out; omega)⟩
                case measure => simp [intOf]; omega
              · go_wp2
                go_round
                case rel => exact ⟨k + 1, 10 * N + (bt s k - 48), false, by omega, by go_num, rfl, rfl, hdn.out, by omega, by omega, Lib.hid (fun _ => by have := hst.out; have := HNe.out; omega), Lib.hid (fun h => by cases h)⟩
                case measure => simp [intOf]; omega
      · have : k = s.size := by omega
        subst this
        cases O with
        | true =>
          have h := Lib.hid (HO.out hd (HT.out rfl))
          go_wp2
          go_ret2
          exact ⟨ret_ii h.out.2.symm h.out.1.symm, rfl⟩
        | false =>
          obtain ⟨hNe, hle⟩ := HF.out rfl
          have h := Lib.hid (HK.out hd hle)
          have HNe := Lib.hid hNe
          clear hNe
          go_wp2
          go_ret2
          exact ⟨ret_ii (by rw [h.out.2, HNe.out]) h.out.1.symm, rfl⟩
  · have h3 : ¬ (s.extract 0 1).toList = [48] := fun h => h48 (HB.out.1 h)
    have h4 : ((s.extract 0 1).toList == [48]) = false := by rw [beq_eq_false_iff_ne]; exact h3
    clear h48
    go_enter Tryd.func48, Tryd.ntmps48
    go_wp2
    go_loop [6, 7, 23] (fun n o i => ∃ (k : Nat) (N : Int) (O : Bool), k ≤ s.size ∧ i = .int .i64 k ∧ n = .int .u64 N ∧ o = .bool O ∧ dgs s k = true ∧ 0 ≤ N ∧ N ≤ 18446744073709551615 ∧ Hid (O = false → N = nv s k ∧ nv s k ≤ most) ∧ Hid (O = true → most < nv s k)) (fun _ _ i => s.size - (intOf i).toNat)
    case atStart => exact ⟨0, 0, false, Nat.zero_le _, rfl, rfl, rfl, rfl, Int.le_refl _, by omega, Lib.hid (fun _ => ⟨rfl, h0⟩), Lib.hid (fun h => by cases h)⟩
    case round =>
      obtain ⟨k, N, O, hk, rfl, rfl, rfl, hd, hN0, hN1, HF, HT⟩ := hrel
      by_cases hlt : k < s.size
      · rcases (show bt s k < 48 ∨ 57 < bt s k ∨ (48 ≤ bt s k ∧ bt s k ≤ 57) by omega) with c | c | c
        · have hno := Lib.hid (HN.out (dgs_no (s := s) hlt (by omega)))
          go_wp2
          go_ret2
          exact ⟨ret_ii hno.out.2.symm hno.out.1.symm, rfl⟩
        · have hno := Lib.hid (HN.out (dgs_no (s := s) hlt (by omega)))
          have hb8 := bt_le s k
          go_wp2
          go_ret2
          exact ⟨ret_ii hno.out.2.symm hno.out.1.symm, rfl⟩
        · have hst := Lib.hid (show nv s (k + 1) = 10 * nv s k + (bt s k - 48) from rfl)
          have hdn := Lib.hid (show dgs s (k + 1) = true by simp only [dgs, hd, Bool.true_and]; simpa using c)
          have hn0 := Lib.hid (nv_nonneg hd)
          cases O with
          | true =>
            have hgt := Lib.hid (HT.out rfl)
            go_wp2
            go_round
            case rel => exact ⟨k + 1, _, true, by omega, by go_num, rfl, rfl, hdn.out, wrap_u64_pos _, wrap_u64_le _, Lib.hid (fun h => by cases h), Lib.hid (fun _ => by have := hgt.out; have := hst.out; have := hn0.out; omega)⟩
            case measure => simp [intOf]; omega
          | false =>
            obtain ⟨hNe, hle⟩ := HF.out rfl
            have HNe := Lib.hid hNe
            clear hNe
            by_cases cD : most < bt s k - 48
            · go_wp2
              go_round
              case rel => exact ⟨k + 1, _, true, by omega, by go_num, rfl, rfl, hdn.out, wrap_u64_pos _, wrap_u64_le _, Lib.hid (fun h => by cases h), Lib.hid (fun _ => by have := hst.out; have := hn0.out; omega)⟩
              case measure => simp [intOf]; omega
            · by_cases cB : (most - (bt s k - 48)) / 10 < N
              · go_wp2
                go_round
                case rel => exact ⟨k + 1, _, true, by omega, by go_num, rfl, rfl, hdn.out, wrap_u64_pos _, wrap_u64_le _, Lib.hid (fun h => by cases h), Lib.hid (fun _ => by have := hst.out; have := HNe.out; omega)⟩
                case measure => simp [intOf]; omega
              · go_wp2
                go_round
                case rel => exact ⟨k + 1, 10 * N + (bt s k - 48), false, by omega, by go_num, rfl, rfl, hdn.out, by omega, by omega, Lib.hid (fun _ => by have := hst.out; have := HNe.out; omega), Lib.hid (fun h => by cases h)⟩
                case measure => simp [intOf]; omega
      · have : k = s.size := by omega
        subst this
        cases O with
        | true =>
          have h := Lib.hid (HO.out hd (HT.out rfl))
          go_wp2
          go_ret2
          exact ⟨ret_ii h.out.2.symm h.out.1.symm, rfl⟩
        | false =>
          obtain ⟨hNe, hle⟩ := HF.out rfl
          have h := Lib.hid (HK.out hd hle)
          have HNe := Lib.hid hNe
          clear hNe
          go_wp2
          go_ret2
          exact ⟨ret_ii (by rw [h.out.2, HNe.out]) h.out.1.symm, rfl⟩
end Go.Proofs.YtmelilppeikdiaaDoor
