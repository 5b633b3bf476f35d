/- Contracts of letter.IsName, letter.all, clewref04.IsName: what may be a name. -/
import Derived.Test.YtdommneciojiaaaLetter
namespace Go.Proofs.Ytdommneciojiaaa
open Go.RowKit Go.PlainAid
set_option linter.unusedVariables false
set_option linter.unusedSimpArgs false

/-- A byte of a name. -/
def namB (c : Int) : Bool := smallB c || digitB c || (c == 95)
/-- May it be a name? -/
def isNameL (l : List UInt8) : Bool := decide (1 ≤ l.length ∧ l.length ≤ 24) && (match l with | [] => false | c :: _ => smallB (c.toNat : Int)) && l.all fun c => namB (c.toNat : Int)
theorem letIs1 (c : Int) (w : World) : Calls Try.prog 37 #[.int .u8 c] w fun e w' => e = .returned (.bool (namB c)) ∧ w = w' := by
  have H1 := Lib.hid (fun w => let_small c w)
  have H2 := Lib.hid (fun w => let_digit c w)
  have HS : Hid (namB c = (smallB c || digitB c || (c == 95))) := Lib.hid rfl
  cases h1 : smallB c with
  | true =>
    rw [h1] at H1 HS
    go_enter Try.func37, Try.ntmps37
    go_wp2_with (go_at_call 36; refine (H1.out _).mono ?_; rintro e w' ⟨rfl, rfl⟩)
    go_ret
    exact ⟨ret_b (by rw [HS.out]; rfl), rfl⟩
  | false =>
    cases h2 : digitB c with
    | true =>
      rw [h1, h2] at HS
      rw [h1] at H1
      rw [h2] at H2
      go_enter Try.func37, Try.ntmps37
      go_wp2_with (first | (go_at_call 36; refine (H1.out _).mono ?_; rintro e w' ⟨rfl, rfl⟩) | (go_at_call 38; refine (H2.out _).mono ?_; rintro e w' ⟨rfl, rfl⟩))
      go_ret
      exact ⟨ret_b (by rw [HS.out]; rfl), rfl⟩
    | false =>
      rw [h1, h2] at HS
      rw [h1] at H1
      rw [h2] at H2
      go_enter Try.func37, Try.ntmps37
      go_wp2_with (first | (go_at_call 36; refine (H1.out _).mono ?_; rintro e w' ⟨rfl, rfl⟩) | (go_at_call 38; refine (H2.out _).mono ?_; rintro e w' ⟨rfl, rfl⟩))
      go_ret
      exact ⟨ret_b (by rw [HS.out]; simp), rfl⟩

def isNameS (s : ByteArray) : Bool := isNameL s.data.toList
def allF (s : ByteArray) (p : Nat) : Bool := (s.data.toList.drop p).all fun c => namB (c.toNat : Int)
theorem all_at (s : ByteArray) (p : Nat) (hp : p < s.size) : allF s p = (namB ((s[p]'hp).toNat : Int) && allF s (p + 1)) := by
  unfold allF
  rw [List.drop_eq_getElem_cons (by simpa using hp), List.all_cons]; rfl
theorem all_end (s : ByteArray) (p : Nat) (hp : ¬ p < s.size) : allF s p = true := by
  unfold allF
  rw [List.drop_eq_nil_of_le (by simpa using hp)]; rfl
theorem isName_len (s : ByteArray) (h : ¬ (1 ≤ s.size ∧ s.size ≤ 24)) : isNameS s = false := by
  unfold isNameS isNameL
  rw [decide_eq_false (by simpa using h)]; rfl
theorem isName_some (s : ByteArray) (h0 : 0 < s.size) (h1 : s.size ≤ 24) : isNameS s = (smallB ((s[0]'h0).toNat : Int) && allF s 0) := by
  unfold isNameS isNameL allF
  have hd : decide (1 ≤ s.data.toList.length ∧ s.data.toList.length ≤ 24) = true := by simp; omega
  rw [hd]
  have hs0 : s.data.toList = (s.data[0]'(by simpa using h0)) :: s.data.toList.drop 1 := by
    have := List.drop_eq_getElem_cons (l := s.data.toList) (i := 0) (by simpa using h0)
    simpa using this
  have hs : s.data.toList = s[0] :: s.data.toList.drop 1 := hs0
  clear hs0
  generalize s[0] = c at hs
  generalize s.data.toList = l at hs
  rw [hs]; rfl
set_option maxRecDepth 100000 in
set_option maxHeartbeats 4000000 in
theorem letAll (s : ByteArray) (w : World) (hs : s.size ≤ 9223372036854775807) : Calls Try.prog 35 #[.string s, .int .i64 24, .func (.func 36) #[] #[], .func (.func 37) #[] #[]] w fun e w' => e = .returned (.bool (isNameS s)) ∧ w = w' := by
  by_cases h0 : 0 < s.size
  · by_cases h24 : s.size ≤ 24
    · have hI := isName_some s h0 h24
      cases hsm : smallB ((s[0]'h0).toNat : Int) with
      | false =>
        have HI : Hid (isNameS s = false) := Lib.hid (by rw [hI, hsm]; rfl)
        have H1 := Lib.hid (fun w => let_small ((s[0]'h0).toNat : Int) w)
        rw [hsm] at H1
        clear hI hsm
        go_enter Try.func35, Try.ntmps35
        go_wp2_with (go_at_call 36; refine (H1.out _).mono ?_; rintro e w' ⟨rfl, rfl⟩)
        go_ret
        exact ⟨ret_b HI.out.symm, rfl⟩
      | true =>
        have HI : Hid (isNameS s = allF s 0) := Lib.hid (by rw [hI, hsm]; rfl)
        have H1 := Lib.hid (fun w => let_small ((s[0]'h0).toNat : Int) w)
        rw [hsm] at H1
        clear hI hsm
        go_enter Try.func35, Try.ntmps35
        go_wp2_with (go_at_call 36; refine (H1.out _).mono ?_; rintro e w' ⟨rfl, rfl⟩)
        go_loop [28] (fun i => ∃ (p : Nat), i = .int .i64 p ∧ p ≤ s.size ∧ Hid (isNameS s = allF s p)) (fun i => s.size - (intOf i).toNat)
        case atStart => exact ⟨0, rfl, Nat.zero_le _, HI⟩
        case round =>
          obtain ⟨p, rfl, hpl, hF⟩ := hrel
          by_cases hlt : p < s.size
          · have HA := Lib.hid (all_at s p hlt)
            have H2 := Lib.hid (fun w => letIs1 ((s[p]'hlt).toNat : Int) w)
            cases hn : namB ((s[p]'hlt).toNat : Int) with
            | false =>
              have HE : Hid (isNameS s = false) := Lib.hid (by rw [hF.out, HA.out, hn]; rfl)
              rw [hn] at H2
              clear hn HA
              go_wp2_with (go_at_call 37; refine (H2.out _).mono ?_; rintro e w' ⟨rfl, rfl⟩)
              go_ret
              exact ⟨ret_b HE.out.symm, rfl⟩
            | true =>
              have HE : Hid (isNameS s = allF s (p + 1)) := Lib.hid (by rw [hF.out, HA.out, hn]; rfl)
              rw [hn] at H2
              clear hn HA
              go_wp2_with (go_at_call 37; refine (H2.out _).mono ?_; rintro e w' ⟨rfl, rfl⟩)
              go_round
              case rel => exact ⟨p + 1, by go_num, by omega, HE⟩
              case measure => simp [intOf]; omega
          · have HE : Hid (isNameS s = true) := Lib.hid (by rw [hF.out, all_end s p hlt])
            go_wp2
            go_ret
            exact ⟨ret_b HE.out.symm, rfl⟩
    · have HI := Lib.hid (isName_len s (by omega))
      go_enter Try.func35, Try.ntmps35
      go_wp2
      go_ret
      exact ⟨ret_b HI.out.symm, rfl⟩
  · have HI := Lib.hid (isName_len s (by omega))
    go_enter Try.func35, Try.ntmps35
    go_wp2
    go_ret
    exact ⟨ret_b HI.out.symm, rfl⟩
set_option maxRecDepth 100000 in
set_option maxHeartbeats 4000000 in
theorem letIsName (s : ByteArray) (w : World) (hs : s.size ≤ 9223372036854775807) : Calls Try.prog 22 #[.string s] w fun e w' => e = .returned (.bool (isNameS s)) ∧ w = w' := by
  have H := Lib.hid (fun w => letAll s w hs)
  go_enter Try.func22, Try.ntmps22
  go_wp2_with (go_at_call 35; refine (H.out _).mono ?_; rintro e w' ⟨rfl, rfl⟩)
  go_ret
  exact ⟨rfl, rfl⟩
set_option maxRecDepth 100000 in
set_option maxHeartbeats 4000000 in
theorem refIsName (s : ByteArray) (w : World) (hs : s.size ≤ 9223372036854775807) : Calls Try.prog 30 #[.string s] w fun e w' => e = .returned (.bool (isNameS s)) ∧ w = w' := by
  by_cases h0 : 0 < s.size
  · by_cases h24 : s.size ≤ 24
    · have hI := isName_some s h0 h24
      cases hsm : smallB ((s[0]'h0).toNat : Int) with
      | false =>
        have HI : Hid (isNameS s = false) := Lib.hid (by rw [hI, hsm]; rfl)
        have H1 := Lib.hid (fun w => ref_small ((s[0]'h0).toNat : Int) w)
        rw [hsm] at H1
        clear hI hsm
        go_enter Try.func30, Try.ntmps30
        go_wp2_with (go_at_call 51; refine (H1.out _).mono ?_; rintro e w' ⟨rfl, rfl⟩)
        go_ret
        exact ⟨ret_b HI.out.symm, rfl⟩
      | true =>
        have HI : Hid (isNameS s = allF s 0) := Lib.hid (by rw [hI, hsm]; rfl)
        have H1 := Lib.hid (fun w => ref_small ((s[0]'h0).toNat : Int) w)
        rw [hsm] at H1
        clear hI hsm
        go_enter Try.func30, Try.ntmps30
        go_wp2_with (go_at_call 51; refine (H1.out _).mono ?_; rintro e w' ⟨rfl, rfl⟩)
        go_loop [3] (fun i => ∃ (p : Nat), i = .int .i64 p ∧ p ≤ s.size ∧ Hid (isNameS s = allF s p)) (fun i => s.size - (intOf i).toNat)
        case atStart => exact ⟨0, rfl, Nat.zero_le _, HI⟩
        case round =>
          obtain ⟨p, rfl, hpl, hF⟩ := hrel
          by_cases hlt : p < s.size
          · have HA := Lib.hid (all_at s p hlt)
            obtain ⟨c, hc⟩ : ∃ c, ((s[p]'hlt).toNat : Int) = c := ⟨_, rfl⟩
            have H2 := Lib.hid (fun w => ref_small c w)
            have H3 := Lib.hid (fun w => ref_digit c w)
            rw [hc] at HA
            have HN : Hid (namB c = (smallB c || digitB c || (c == 95))) := Lib.hid rfl
            have h95 : (c != 95) = !(c == 95) := rfl
            cases h1 : smallB c <;> cases h2 : digitB c <;> cases h3 : (c == 95) <;> rw [h1] at H2 HN <;> rw [h2] at H3 HN <;> rw [h3] at HN h95 <;> simp only [Bool.not_true, Bool.not_false] at h95
            case false.false.false =>
              have HE : Hid (isNameS s = false) := Lib.hid (by rw [hF.out, HA.out, HN.out]; rfl)
              clear h1 h2 HA HN
              go_wp2_with (first | (go_at_call 51; refine (H2.out _).mono ?_; rintro e w' ⟨rfl, rfl⟩) | (go_at_call 52; refine (H3.out _).mono ?_; rintro e w' ⟨rfl, rfl⟩))
              go_ret
              exact ⟨ret_b HE.out.symm, rfl⟩
            all_goals
              have HE : Hid (isNameS s = allF s (p + 1)) := Lib.hid (by rw [hF.out, HA.out, HN.out]; simp)
              clear h1 h2 HA HN
              go_wp2_with (first | (go_at_call 51; refine (H2.out _).mono ?_; rintro e w' ⟨rfl, rfl⟩) | (go_at_call 52; refine (H3.out _).mono ?_; rintro e w' ⟨rfl, rfl⟩))
              go_round
              case rel => exact ⟨p + 1, by go_num, by omega, HE⟩
              case measure => simp [intOf]; omega
          · have HE : Hid (isNameS s = true) := Lib.hid (by rw [hF.out, all_end s p hlt])
            go_wp2
            go_ret
            exact ⟨ret_b HE.out.symm, rfl⟩
    · have HI := Lib.hid (isName_len s (by omega))
      go_enter Try.func30, Try.ntmps30
      go_wp2
      go_ret
      exact ⟨ret_b HI.out.symm, rfl⟩
  · have HI := Lib.hid (isName_len s (by omega))
    go_enter Try.func30, Try.ntmps30
    go_wp2
    go_ret
    exact ⟨ret_b HI.out.symm, rfl⟩
theorem isNameS_mk (l : List UInt8) : isNameS ⟨l.toArray⟩ = isNameL l := rfl
end Go.Proofs.Ytdommneciojiaaa
