/- The walks of the laws NumWraps, NumReckons, NumDivides, NumParses: each answers true. -/
import Derived.Test.YtmngomkkgibfmaaNumAwake
namespace Go.Proofs.Ytmngomkkgibfmaa
open Go.RowKit Go.PlainAid

theorem wr_wr (n : Int) : wr (wr n) = wr n := wr_in _ (wr_bd n)
theorem wr_cong {a b : Int} (h : (a - b) % 65536 = 0) : wr a = wr b := by unfold wr; omega
theorem wr_sub (n : Int) : (n - wr n) % 65536 = 0 := by unfold wr; omega
theorem beq_refl' (n : Int) : (n == n) = true := by simp
theorem wr_tm (n : Int) : (wrap64 (n - wr n)).tmod 65536 = 0 := by
  have h := wr_sub n
  have h2 : (wrap64 (n - wr n)) % 65536 = 0 := by unfold wrap64; omega
  exact Int.tmod_eq_zero_of_dvd (Int.dvd_of_emod_eq_zero h2)
theorem wr_mul_l (a b : Int) : wr (wr a * b) = wr (a * b) := by
  apply wr_cong
  obtain ⟨x, hx⟩ := Int.dvd_of_emod_eq_zero (wr_sub a)
  have ea : wr a = a - 65536 * x := by omega
  apply Int.emod_eq_zero_of_dvd
  refine ⟨- (x * b), ?_⟩
  rw [ea, Int.sub_mul, Int.mul_assoc]; omega
theorem wr_add_l (a b : Int) : wr (wr a + b) = wr (a + b) := by unfold wr; omega
theorem wr_add (a b : Int) : wr (wr a + wr b) = wr (a + b) := by unfold wr; omega
theorem divides (a b : Int) : wr (wr (wr (wr (wr ((wr a).tdiv (wr b))) * wr b)) + wr ((wr a).tmod (wr b))) = wr a := by
  rw [wr_add, wr_wr, wr_mul_l, wr_add_l, ← tdm a b]
  generalize (wr a).tdiv (wr b) * wr b = t
  rw [show t + (wr a - t) = wr a by omega, wr_wr]

theorem walkWraps (n : Int) (w : World) :
    Calls Try.prog 4 #[.int .i64 n] w fun e w' => e = .returned (.bool true) ∧ Grown w w' := by
  have h1 := wr_bd n
  have h2 : wr (wr n) = wr n := wr_wr n
  have h3 := wr_tm n
  go_enter Try.func4, Try.ntmps4
  go_wp2_with (first
    | (go_at_call 12; refine (numWrap _ _).mono ?_; rintro e w' ⟨rfl, rfl⟩)
    | (go_at_call 15; refine (refWrap _ _).mono ?_; rintro e w' ⟨rfl, rfl⟩)
    | (go_at_call 13; refine (numIs _ _).mono ?_; rintro e w' ⟨rfl, rfl⟩)
    | (go_at_call 14; refine (refIs _ _).mono ?_; rintro e w' ⟨rfl, rfl⟩)
    | (go_at_call 16; refine (numNeg _ _).mono ?_; rintro e w' ⟨rfl, rfl⟩)
    | (go_at_call 17; refine (refNeg _ _).mono ?_; rintro e w' ⟨rfl, rfl⟩)
    | (go_at_call 7; refine (awake01 _).mono ?_; rintro e w' ⟨rfl, rfl⟩))
  go_ret
  exact ⟨rfl, by go_grown⟩

theorem walkReckons (a b : Int) (w : World) :
    Calls Try.prog 5 #[.int .i64 a, .int .i64 b] w fun e w' => e = .returned (.bool true) ∧ Grown w w' := by
  go_enter Try.func5, Try.ntmps5
  go_wp2_with (first
    | (go_at_call 18; refine (numAdd _ _ _).mono ?_; rintro e w' ⟨rfl, rfl⟩)
    | (go_at_call 19; refine (refAdd _ _ _).mono ?_; rintro e w' ⟨rfl, rfl⟩)
    | (go_at_call 20; refine (numSub _ _ _).mono ?_; rintro e w' ⟨rfl, rfl⟩)
    | (go_at_call 21; refine (refSub _ _ _).mono ?_; rintro e w' ⟨rfl, rfl⟩)
    | (go_at_call 22; refine (numMul _ _ _).mono ?_; rintro e w' ⟨rfl, rfl⟩)
    | (go_at_call 23; refine (refMul _ _ _).mono ?_; rintro e w' ⟨rfl, rfl⟩)
    | (go_at_call 7; refine (awake01 _).mono ?_; rintro e w' ⟨rfl, rfl⟩))
  go_ret
  exact ⟨rfl, by go_grown⟩

theorem walkDivides (a b : Int) (w : World) :
    Calls Try.prog 6 #[.int .i64 a, .int .i64 b] w fun e w' => e = .returned (.bool true) ∧ Grown w w' := by
  cases h0 : (wr b == 0) with
  | true =>
    have H0 := Lib.hid h0
    clear h0
    go_enter Try.func6, Try.ntmps6
    go_wp2_with (first
      | (go_at_call 24; refine (numDiv0 _ _ _ H0.out).mono ?_; rintro e w' ⟨rfl, rfl⟩)
      | (go_at_call 26; refine (refDiv0 _ _ _ H0.out).mono ?_; rintro e w' ⟨rfl, rfl⟩)
      | (go_at_call 25; refine (numMod0 _ _ _ H0.out).mono ?_; rintro e w' ⟨rfl, rfl⟩)
      | (go_at_call 27; refine (refMod0 _ _ _ H0.out).mono ?_; rintro e w' ⟨rfl, rfl⟩)
      | (go_at_call 7; refine (awake01 _).mono ?_; rintro e w' ⟨rfl, rfl⟩))
    go_ret
    exact ⟨rfl, by go_grown⟩
  | false =>
    have H0 := Lib.hid h0
    clear h0
    have hd := divides a b
    go_enter Try.func6, Try.ntmps6
    go_wp2_with (first
      | (go_at_call 24; refine (numDiv _ _ _ H0.out).mono ?_; rintro e w' ⟨rfl, rfl⟩)
      | (go_at_call 26; refine (refDiv _ _ _ H0.out).mono ?_; rintro e w' ⟨rfl, rfl⟩)
      | (go_at_call 25; refine (numMod _ _ _ H0.out).mono ?_; rintro e w' ⟨rfl, rfl⟩)
      | (go_at_call 27; refine (refMod _ _ _ H0.out).mono ?_; rintro e w' ⟨rfl, rfl⟩)
      | (go_at_call 18; refine (numAdd _ _ _).mono ?_; rintro e w' ⟨rfl, rfl⟩)
      | (go_at_call 22; refine (numMul _ _ _).mono ?_; rintro e w' ⟨rfl, rfl⟩)
      | (go_at_call 12; refine (numWrap _ _).mono ?_; rintro e w' ⟨rfl, rfl⟩)
      | (go_at_call 7; refine (awake01 _).mono ?_; rintro e w' ⟨rfl, rfl⟩))
    go_ret
    exact ⟨rfl, by go_grown⟩

theorem walkParses (s : ByteArray) (most : Int) (w0 : s.size ≤ maxLen) (w1 : (Lit.int .u64 most).wf = true) (w : World) :
    Calls Try.prog 3 #[.string s, .int .u64 most] w fun e w' => e = .returned (.bool true) ∧ Grown w w' := by
  have hm := bounds_u64 w1
  have hs := w0
  unfold maxLen at hs
  by_cases hl : 300 < s.size
  · go_enter Try.func3, Try.ntmps3
    go_wp2_with (go_at_call 7; refine (awake01 _).mono ?_; rintro e w' ⟨rfl, rfl⟩)
    go_ret
    exact ⟨rfl, by go_grown⟩
  · go_enter Try.func3, Try.ntmps3
    go_wp2_with (first
      | (go_at_call 8; refine (numParse _ _ w0).mono ?_; rintro e w' ⟨rfl, rfl⟩)
      | (go_at_call 9; refine (refParse _ _ w0).mono ?_; rintro e w' ⟨rfl, rfl⟩)
      | (go_at_call 10; refine (numNumber _ _ _ w0 hm.1 hm.2).mono ?_; rintro e w' ⟨rfl, rfl⟩)
      | (go_at_call 11; refine (refNumber _ _ _ w0 hm.1 hm.2).mono ?_; rintro e w' ⟨rfl, rfl⟩)
      | (go_at_call 7; refine (awake01 _).mono ?_; rintro e w' ⟨rfl, rfl⟩))
    go_ret
    exact ⟨rfl, by go_grown⟩
end Go.Proofs.Ytmngomkkgibfmaa
