/- The reader's token. -/
import Derived.Test.YtmelilppeikdiaaDoorText2
namespace Go.Proofs.YtmelilppeikdiaaDoor
open Go.RowKit Go.PlainAid
set_option linter.unusedVariables false
set_option linter.unusedSimpArgs false

theorem TokP.agg {w' : World} {R : Nat} {s : ByteArray} {i : Nat} {T : TK} {v : Value} {e : Int} (h : TokP w' R s i T v e) : ∃ k t n, v = .agg #[.int .i64 k, .string t, .int .i64 n, .int .i64 0, .int .i64 0] := by
  rcases h with ⟨_, rfl, _⟩ | ⟨_, h, _⟩
  · exact ⟨_, _, _, rfl⟩
  · exact h
theorem TokP.far {w : World} {R : Nat} {s : ByteArray} {i : Nat} {T : TK} {v : Value} {e : Int} (h : TokP w R s i T v e) {b : Nat} (hb : R < b) (o : Nat) (u : Value) : TokP (w.setCell ⟨b, o, none⟩ u) R s i T v e := by
  rcases h with ⟨h1, h2, h3, h4⟩ | ⟨h1, h2, h3⟩
  · exact .inl ⟨h1, h2, h3, h4.far hb o u⟩
  · refine .inr ⟨h1, h2, ?_⟩
    rcases h3 with ⟨a, b', j, c⟩ | ⟨a, b'⟩
    · exact .inl ⟨a, b', j, c.far hb o u⟩
    · exact .inr ⟨a, b'.far hb o u⟩

theorem one_word (s : ByteArray) (i : Nat) (h : smallB (bt s i) = true) : oneL (sfx s i) = wordT (sfx s i) := by
  simp only [smallB, decide_eq_true_eq] at h
  unfold oneL
  rw [hd_sfx, if_neg (by omega), if_neg (by simp [digitB]; omega), if_pos (by simp [smallB]; omega)]
theorem one_num (s : ByteArray) (i : Nat) (h : digitB (bt s i) = true) : oneL (sfx s i) = numT (sfx s i) := by
  unfold oneL
  rw [hd_sfx, if_neg (by simp only [digitB, decide_eq_true_eq] at h; omega), if_pos h]
theorem one_text (s : ByteArray) (i : Nat) (h : bt s i = 34) : oneL (sfx s i) = textL (sfx s (i + 1)) [] 1 := by
  unfold oneL
  rw [hd_sfx, if_pos h, sfx_drop]
theorem one_sign (s : ByteArray) (i : Nat) (h1 : bt s i ≠ 34) (h2 : digitB (bt s i) = false) (h3 : smallB (bt s i) = false) : oneL (sfx s i) = signT (sfx s i) := by
  unfold oneL
  rw [hd_sfx, if_neg h1, if_neg (by simp [h2]), if_neg (by simp [h3])]

set_option maxHeartbeats 4000000 in
theorem lexToken (R : Nat) (s : ByteArray) (i : Nat) (m : Int) (w : World) (h : RD w R s i 0 0 0) (hlt : i < s.size) (hR0 : 0 < R) (hm : w.cell? ⟨0, 0, none⟩ = some (.int .i64 m)) :
    Calls Tryd.prog 19 #[.pointer (some ⟨R, 0, none⟩)] w fun e' w' => ∃ v e, e' = .returned (.tuple #[v, .int .i64 e]) ∧ TokP w' R s i (oneL (sfx s i)) v e ∧ w.grownBy w' (some R) := by
  have hblk := h.blk
  have hlim := h.lim
  have hb := get_bt s
  have HR := Lib.hid (h.below (one_alloc w (.cells #[.int .i64 0, .string ⟨#[]⟩, .int .i64 0, .int .i64 0, .int .i64 0] 25)))
  have HG0 := Lib.hid (World.grownBy_alloc w (.cells #[.int .i64 0, .string ⟨#[]⟩, .int .i64 0, .int .i64 0, .int .i64 0] 25) (some R))
  have hm1 : (w.alloc (.cells #[.int .i64 0, .string ⟨#[]⟩, .int .i64 0, .int .i64 0, .int .i64 0] 25)).cell? ⟨0, 0, none⟩ = some (.int .i64 m) := by rw [(one_alloc _ _).cell (lt_cell hm)]; exact hm
  have HM := Lib.hid hm1
  have hc0 := h.c0
  have hc1 := h.c1
  clear h hm hm1
  by_cases hw : smallB (bt s i) = true
  · have HO := Lib.hid (one_word s i hw)
    have hw1 : decide (97 ≤ bt s i) = true := by simp only [smallB, decide_eq_true_eq] at hw ⊢; omega
    have hw2 : decide (bt s i ≤ 122) = true := by simp only [smallB, decide_eq_true_eq] at hw ⊢; omega
    clear hw
    go_enter Tryd.func19, Tryd.ntmps19
    go_wp2_with fail
    go_quiet (fail)
    go_wp2_with fail
    refine (lexWord R s i m _ (HR.out.drewN _) hR0 HM.out).mono ?_
    rintro e' w1 ⟨v, e, rfl, hT, hG⟩
    rw [← HO.out] at hT
    obtain ⟨k, t, n, rfl⟩ := hT.agg
    have HW := Lib.hid ((Row5.new w (.int .i64 0) (.string ⟨#[]⟩) (.int .i64 0) (.int .i64 0) (.int .i64 0) 25).kept (R := R) (gb_trans (gb_drewN (gb_refl _ _) _) hG) (by omega))
    obtain ⟨hrb, b0, b1, b2, b3, b4, bz⟩ := HW.out
    have bz0 := bz 0
    have bz1 := bz 1
    have bz2 := bz 2
    have bz3 := bz 3
    have bz4 := bz 4
    clear bz
    have HT := Lib.hid hT
    have HG := Lib.hid hG
    clear hT hG
    go_wp2_with fail
    (try simp only [Exit.inBlock, Exit.then])
    refine bodyPost_ret (v := .tuple #[.agg #[.int .i64 k, .string t, .int .i64 n, .int .i64 0, .int .i64 0], .int .i64 e]) ?_ rfl ⟨_, _, rfl, ?_, ?_⟩
    · rw [results_cell_tmp rfl]; go_simp
    · exact ((((HT.out.far hblk _ _).far hblk _ _).far hblk _ _).far hblk _ _).far hblk _ _
    · exact gb_far (gb_far (gb_far (gb_far (gb_far (gb_trans HG0.out (gb_trans (gb_drewN (gb_refl _ _) _) HG.out)) (Nat.le_refl _) _ _) (Nat.le_refl _) _ _) (Nat.le_refl _) _ _) (Nat.le_refl _) _ _) (Nat.le_refl _) _ _
  · have hw0 : smallB (bt s i) = false := by simpa using hw
    clear hw
    cases hd : digitB (bt s i) with
    | true =>
      have HO := Lib.hid (one_num s i hd)
      have HD := Lib.hid hd
      have hw1 : decide (97 ≤ bt s i) = false := by simp only [digitB, decide_eq_true_eq] at hd; simp; omega
      clear hd hw0
      go_enter Tryd.func19, Tryd.ntmps19
      go_wp2_with fail
      go_quiet (fail)
      go_wp2_with fail
      refine (lexDigit _ _).mono ?_
      rintro e' w2 ⟨rfl, rfl⟩
      rw [HD.out]
      go_wp2_with fail
      refine (lexNumber R s i _ (HR.out.drewN _) HD.out).mono ?_
      rintro e' w1 ⟨v, e, rfl, hT, hG⟩
      rw [← HO.out] at hT
      obtain ⟨k, t, n, rfl⟩ := hT.agg
      have HW := Lib.hid ((Row5.new w (.int .i64 0) (.string ⟨#[]⟩) (.int .i64 0) (.int .i64 0) (.int .i64 0) 25).kept (R := R) (gb_trans (gb_drewN (gb_refl _ _) _) hG) (by omega))
      obtain ⟨hrb, b0, b1, b2, b3, b4, bz⟩ := HW.out
      have bz0 := bz 0
      have bz1 := bz 1
      have bz2 := bz 2
      have bz3 := bz 3
      have bz4 := bz 4
      clear bz
      have HT := Lib.hid hT
      have HG := Lib.hid hG
      clear hT hG
      go_wp2_with fail
      (try simp only [Exit.inBlock, Exit.then])
      refine bodyPost_ret (v := .tuple #[.agg #[.int .i64 k, .string t, .int .i64 n, .int .i64 0, .int .i64 0], .int .i64 e]) ?_ rfl ⟨_, _, rfl, ?_, ?_⟩
      · rw [results_cell_tmp rfl]; go_simp
      · exact ((((HT.out.far hblk _ _).far hblk _ _).far hblk _ _).far hblk _ _).far hblk _ _
      · exact gb_far (gb_far (gb_far (gb_far (gb_far (gb_trans HG0.out (gb_trans (gb_drewN (gb_refl _ _) _) HG.out)) (Nat.le_refl _) _ _) (Nat.le_refl _) _ _) (Nat.le_refl _) _ _) (Nat.le_refl _) _ _) (Nat.le_refl _) _ _
    | false =>
      by_cases h34 : bt s i = 34
      · have HO := Lib.hid (one_text s i h34)
        have HD := Lib.hid hd
        have hw1 : decide (97 ≤ bt s i) = false := by simp; omega
        have h34' : (bt s i == 34) = true := by simp [h34]
        clear hd hw0 h34
        go_enter Tryd.func19, Tryd.ntmps19
        go_wp2_with fail
        go_quiet (fail)
        go_wp2_with fail
        refine (lexDigit _ _).mono ?_
        rintro e' w2 ⟨rfl, rfl⟩
        rw [HD.out]
        go_wp2_with fail
        refine (lexText R s i _ (HR.out.drewN _) hlt).mono ?_
        rintro e' w1 ⟨v, e, rfl, hT, hG⟩
        rw [← HO.out] at hT
        obtain ⟨k, t, n, rfl⟩ := hT.agg
        have HW := Lib.hid ((Row5.new w (.int .i64 0) (.string ⟨#[]⟩) (.int .i64 0) (.int .i64 0) (.int .i64 0) 25).kept (R := R) (gb_trans (gb_drewN (gb_refl _ _) _) hG) (by omega))
        obtain ⟨hrb, b0, b1, b2, b3, b4, bz⟩ := HW.out
        have bz0 := bz 0
        have bz1 := bz 1
        have bz2 := bz 2
        have bz3 := bz 3
        have bz4 := bz 4
        clear bz
        have HT := Lib.hid hT
        have HG := Lib.hid hG
        clear hT hG
        go_wp2_with fail
        (try simp only [Exit.inBlock, Exit.then])
        refine bodyPost_ret (v := .tuple #[.agg #[.int .i64 k, .string t, .int .i64 n, .int .i64 0, .int .i64 0], .int .i64 e]) ?_ rfl ⟨_, _, rfl, ?_, ?_⟩
        · rw [results_cell_tmp rfl]; go_simp
        · exact ((((HT.out.far hblk _ _).far hblk _ _).far hblk _ _).far hblk _ _).far hblk _ _
        · exact gb_far (gb_far (gb_far (gb_far (gb_far (gb_trans HG0.out (gb_trans (gb_drewN (gb_refl _ _) _) HG.out)) (Nat.le_refl _) _ _) (Nat.le_refl _) _ _) (Nat.le_refl _) _ _) (Nat.le_refl _) _ _) (Nat.le_refl _) _ _
      · have HO := Lib.hid (one_sign s i h34 hd hw0)
        have HD := Lib.hid hd
        have h34' : (bt s i == 34) = false := by simp [h34]
        have hww : ¬ (97 ≤ bt s i ∧ bt s i ≤ 122) := by simpa [smallB] using hw0
        clear hd hw0 h34
        by_cases h97 : 97 ≤ bt s i
        · have hw1 : decide (97 ≤ bt s i) = true := by simpa using h97
          have hw2 : decide (bt s i ≤ 122) = false := by simp; omega
          clear h97 hww
          go_enter Tryd.func19, Tryd.ntmps19
          go_wp2_with fail
          go_quiet (fail)
          go_wp2_with fail
          refine (lexDigit _ _).mono ?_
          rintro e' w2 ⟨rfl, rfl⟩
          rw [HD.out]
          go_wp2_with fail
          refine (lexSign R s i _ (HR.out.drewN _) hlt).mono ?_
          rintro e' w1 ⟨v, rfl, hT, hG⟩
          rw [← HO.out] at hT
          obtain ⟨k, t, n, rfl⟩ := hT.agg
          have HW := Lib.hid ((Row5.new w (.int .i64 0) (.string ⟨#[]⟩) (.int .i64 0) (.int .i64 0) (.int .i64 0) 25).kept (R := R) (gb_trans (gb_drewN (gb_refl _ _) _) hG) (by omega))
          obtain ⟨hrb, b0, b1, b2, b3, b4, bz⟩ := HW.out
          have bz0 := bz 0
          have bz1 := bz 1
          have bz2 := bz 2
          have bz3 := bz 3
          have bz4 := bz 4
          clear bz
          have HT := Lib.hid hT
          have HG := Lib.hid hG
          clear hT hG
          go_wp2_with fail
          (try simp only [Exit.inBlock, Exit.then])
          refine bodyPost_ret (v := .tuple #[.agg #[.int .i64 k, .string t, .int .i64 n, .int .i64 0, .int .i64 0], .int .i64 0]) ?_ rfl ⟨_, _, rfl, ?_, ?_⟩
          · rw [results_cell_tmp rfl]; go_simp
          · exact ((((HT.out.far hblk _ _).far hblk _ _).far hblk _ _).far hblk _ _).far hblk _ _
          · exact gb_far (gb_far (gb_far (gb_far (gb_far (gb_trans HG0.out (gb_trans (gb_drewN (gb_refl _ _) _) HG.out)) (Nat.le_refl _) _ _) (Nat.le_refl _) _ _) (Nat.le_refl _) _ _) (Nat.le_refl _) _ _) (Nat.le_refl _) _ _
        · have hw1 : decide (97 ≤ bt s i) = false := by simpa using h97
          clear h97 hww
          go_enter Tryd.func19, Tryd.ntmps19
          go_wp2_with fail
          go_quiet (fail)
          go_wp2_with fail
          refine (lexDigit _ _).mono ?_
          rintro e' w2 ⟨rfl, rfl⟩
          rw [HD.out]
          go_wp2_with fail
          refine (lexSign R s i _ (HR.out.drewN _) hlt).mono ?_
          rintro e' w1 ⟨v, rfl, hT, hG⟩
          rw [← HO.out] at hT
          obtain ⟨k, t, n, rfl⟩ := hT.agg
          have HW := Lib.hid ((Row5.new w (.int .i64 0) (.string ⟨#[]⟩) (.int .i64 0) (.int .i64 0) (.int .i64 0) 25).kept (R := R) (gb_trans (gb_drewN (gb_refl _ _) _) hG) (by omega))
          obtain ⟨hrb, b0, b1, b2, b3, b4, bz⟩ := HW.out
          have bz0 := bz 0
          have bz1 := bz 1
          have bz2 := bz 2
          have bz3 := bz 3
          have bz4 := bz 4
          clear bz
          have HT := Lib.hid hT
          have HG := Lib.hid hG
          clear hT hG
          go_wp2_with fail
          (try simp only [Exit.inBlock, Exit.then])
          refine bodyPost_ret (v := .tuple #[.agg #[.int .i64 k, .string t, .int .i64 n, .int .i64 0, .int .i64 0], .int .i64 0]) ?_ rfl ⟨_, _, rfl, ?_, ?_⟩
          · rw [results_cell_tmp rfl]; go_simp
          · exact ((((HT.out.far hblk _ _).far hblk _ _).far hblk _ _).far hblk _ _).far hblk _ _
          · exact gb_far (gb_far (gb_far (gb_far (gb_far (gb_trans HG0.out (gb_trans (gb_drewN (gb_refl _ _) _) HG.out)) (Nat.le_refl _) _ _) (Nat.le_refl _) _ _) (Nat.le_refl _) _ _) (Nat.le_refl _) _ _) (Nat.le_refl _) _ _
end Go.Proofs.YtmelilppeikdiaaDoor
