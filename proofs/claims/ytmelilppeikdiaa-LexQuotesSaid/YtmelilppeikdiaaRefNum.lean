/- Contract of clewref09.number. -/
import Derived.Test.YtmelilppeikdiaaRefSign
import Derived.Test.YtmelilppeikdiaaTokNum
namespace Go.Proofs.Ytmelilppeikdiaa
open Go.RowKit Go.PlainAid
set_option linter.unusedVariables false
set_option linter.unusedSimpArgs false

theorem ret_ii' {a a' b b' : Int} (h : a = a') (h' : b = b') : Ending.returned (.tuple #[.int .i64 a, .int .i64 b]) = .returned (.tuple #[.int .i64 a', .int .i64 b']) := by rw [h, h']

set_option maxHeartbeats 4000000 in
theorem refNum9 (s : ByteArray) (i n : Nat) (w : World) (hi : i < s.size) (hs : s.size ≤ 1000000) (hdg : digitB (bt s i) = true) (hn : n = runL digitB (sfx s i)) :
    Calls Try.prog 47 #[.string s, .int .i64 i, .int .i64 ((i + n : Nat) : Int)] w fun e w' => e = .returned (.tuple #[.int .i64 (numT (sfx s i)).num, .int .i64 (numT (sfx s i)).err]) ∧ w = w' := by
  have hle := runL_le digitB (sfx s i)
  rw [← hn] at hle
  have hsz := take_len hle
  rw [sfx_len] at hle
  have hpos : 0 < n := by
    obtain ⟨b, e, hb⟩ := sfx_cons hi
    rw [hn, e, runL, if_pos (by rw [hb]; exact hdg)]; omega
  obtain ⟨B, hB⟩ : ∃ B, mkB ((sfx s i).take n) = B := ⟨_, rfl⟩
  have hT : numT (sfx s i) = (if numBad (bt s (i + n)) (bt s i) n = true then ⟨2, [], 0, n, 4, 0⟩ else ⟨2, [], numN B 32767, n, numE B 32767, 0⟩) := by
    unfold numT numBad; rw [← hn, hB, sfx_drop, hd_sfx, hd_sfx]
  rw [hB] at hsz
  have hext : Hid (s.extract i (i + n) = B) := Lib.hid (by rw [ext_sfx, hB])
  have hBs : B.size ≤ maxLen := by unfold maxLen; omega
  have hNb := numN_bd B 32767 (by omega)
  obtain ⟨q, hq⟩ : ∃ q, i + n = q := ⟨_, rfl⟩
  rw [hq] at hT hext ⊢
  have hqs : q ≤ s.size := by omega
  obtain ⟨c, hc⟩ : ∃ c, bt s q = c := ⟨_, rfl⟩
  obtain ⟨b, hb⟩ : ∃ b, bt s i = b := ⟨_, rfl⟩
  have hcb : 0 ≤ c ∧ c ≤ 255 := by rw [← hc]; exact ⟨bt_nonneg _ _, bt_le _ _⟩
  have hend : s.size ≤ q → c = 0 := fun h => by rw [← hc]; exact bt_end s h
  have hgc : ∀ h : q < s.size, ((s[q]'h).toNat : Int) = c := fun h => by rw [← hc]; exact get_bt s q h
  have hgb : ((s[i]'hi).toNat : Int) = b := by rw [← hb]; exact get_bt s i hi
  rw [hc, hb] at hT
  have HT := Lib.hid hT
  have hn1 : n = q - i := by omega
  have hiq : i < q := by omega
  have HN := Lib.hid hn1
  clear hT hc hb hn hB hdg hn1 hq
  have HE := Lib.hid hend
  have HGC := Lib.hid hgc
  clear hend hgc
  have hrest : numBad c b n = false → Hid (numT (sfx s i) = ⟨2, [], numN B 32767, n, numE B 32767, 0⟩) := fun h => Lib.hid (by rw [HT.out, h]; rfl)
  have hbad : numBad c b n = true → Hid (numT (sfx s i) = ⟨2, [], 0, n, 4, 0⟩) := fun h => Lib.hid (by rw [HT.out, h]; rfl)
  have Hrest := Lib.hid hrest
  have Hbad := Lib.hid hbad
  clear hrest hbad HT
  by_cases hq2 : q < s.size
  · have hgc := HGC.out hq2
    go_enter Try.func47, Try.ntmps47
    go_wp2_with (first | (go_at_call 48; refine (refSmall _ _).mono ?_; rintro e w' ⟨rfl, rfl⟩) | (go_at_call 56; refine (refBig _ _).mono ?_; rintro e w' ⟨rfl, rfl⟩) | (go_at_call 57; rw [hext.out]; refine (refNumber B 32767 _ hBs (by decide) (by decide)).mono ?_; rintro e w' ⟨rfl, rfl⟩))
    all_goals
      go_ret2
      have hnn := HN.out
      rcases Bool.eq_false_or_eq_true (numBad c b n) with hb | hb
      · have H := (Hbad.out hb).out
        first
          | exact ⟨ret_ii' (congrArg TK.num H).symm (congrArg TK.err H).symm, rfl⟩
          | (exfalso; simp_all [numBad, smallB, greatB]; done)
          | (exfalso; simp_all [numBad, smallB, greatB]; omega)
      · have H := (Hrest.out hb).out
        first
          | exact ⟨ret_ii' (congrArg TK.num H).symm (congrArg TK.err H).symm, rfl⟩
          | (exfalso; simp_all [numBad, smallB, greatB]; done)
          | (exfalso; simp_all [numBad, smallB, greatB]; omega)
  · have hz := HE.out (by omega)
    have hd0 : decide ((q : Int) < (s.size : Int)) = false := by simp; omega
    go_enter Try.func47, Try.ntmps47
    go_wp2_with (first | (go_at_call 57; rw [hext.out]; refine (refNumber B 32767 _ hBs (by decide) (by decide)).mono ?_; rintro e w' ⟨rfl, rfl⟩))
    all_goals
      go_ret2
      have hnn := HN.out
      rcases Bool.eq_false_or_eq_true (numBad c b n) with hb | hb
      · have H := (Hbad.out hb).out
        first
          | exact ⟨ret_ii' (congrArg TK.num H).symm (congrArg TK.err H).symm, rfl⟩
          | (exfalso; simp_all [numBad, smallB, greatB]; done)
          | (exfalso; simp_all [numBad, smallB, greatB]; omega)
      · have H := (Hrest.out hb).out
        first
          | exact ⟨ret_ii' (congrArg TK.num H).symm (congrArg TK.err H).symm, rfl⟩
          | (exfalso; simp_all [numBad, smallB, greatB]; done)
          | (exfalso; simp_all [numBad, smallB, greatB]; omega)
end Go.Proofs.Ytmelilppeikdiaa
