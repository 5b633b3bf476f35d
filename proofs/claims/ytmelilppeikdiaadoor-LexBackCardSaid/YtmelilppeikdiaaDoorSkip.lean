/- The reader's skip. -/
import Derived.Test.YtmelilppeikdiaaDoorPast
import Derived.Test.YtmelilppeikdiaaDoorPastMark
import Derived.Test.YtmelilppeikdiaaDoorLexPlain2
namespace Go.Proofs.YtmelilppeikdiaaDoor
open Go.RowKit Go.PlainAid

theorem lexPeek0 (R : Nat) (s : ByteArray) (i : Nat) (e fl fc : Int) (w : World) (h : RD w R s i e fl fc) :
    Calls Tryd.prog 27 #[.pointer (some ⟨R, 0, none⟩), .int .i64 0] w fun e w' => e = .returned (.int .u8 (bt s i)) ∧ ∃ m, w' = w.drewN m := lexPeek R 0 s i e fl fc w h (by decide)
theorem lexPeek1 (R : Nat) (s : ByteArray) (i : Nat) (e fl fc : Int) (w : World) (h : RD w R s i e fl fc) :
    Calls Tryd.prog 27 #[.pointer (some ⟨R, 0, none⟩), .int .i64 1] w fun e w' => e = .returned (.int .u8 (bt s (i + 1))) ∧ ∃ m, w' = w.drewN m := lexPeek R 1 s i e fl fc w h (by decide)

/-- Where the reader stands behind skip: at J, and nothing is wrong, or (where the gap is faulty) that is told. -/
def SkipP (w : World) (R : Nat) (s : ByteArray) (J : Nat) (ok : Bool) : Prop := RD w R s J 0 0 0 ∨ (ok = false ∧ RD w R s J 13 (ln s J) (cl s J))

set_option maxHeartbeats 1000000 in
theorem lexSkip (R : Nat) (s : ByteArray) (i : Nat) (w : World) (h : RD w R s i 0 0 0) :
    Calls Tryd.prog 18 #[.pointer (some ⟨R, 0, none⟩)] w fun e' w' => e' = .returned (.tuple #[]) ∧ SkipP w' R s (i + (gapL (sfx s i) false).1) (gapL (sfx s i) false).2 ∧ w.grownBy w' (some R) := by
  have hb := get_bt s
  have hi1 := h.c1
  have hRD := Lib.hid h
  have hle := h.le
  clear h
  obtain ⟨J, hJ⟩ : ∃ J, i + (gapL (sfx s i) false).1 = J := ⟨_, rfl⟩
  obtain ⟨OK, hOK⟩ : ∃ b, (gapL (sfx s i) false).2 = b := ⟨_, rfl⟩
  rw [hJ, hOK]
  have HJ := Lib.hid (show i + (gapL (sfx s i) false).1 = J ∧ (gapL (sfx s i) false).2 = OK from ⟨hJ, hOK⟩)
  clear hJ hOK
  go_enter Tryd.func18, Tryd.ntmps18
  go_wp2_with fail
  go_loopw [2] (fun _ wr => ∃ k : Nat, k ≤ s.size ∧ RD wr R s k 0 0 0 ∧ w.grownBy wr (some R) ∧ Hid (k + (gapL (sfx s k) false).1 = J ∧ (gapL (sfx s k) false).2 = OK)) (fun _ wr => s.size - (intOf ((wr.cell? ⟨R, 1, none⟩).getD default)).toNat)
  case atStart => exact ⟨i, hle, hRD.out, gb_refl _ _, HJ⟩
  case round =>
    obtain ⟨k, hk, hR, hG, hI⟩ := hrel
    have hk1 := hR.c1
    have HR := Lib.hid hR
    have HG := Lib.hid hG
    clear hR hG
    go_wp2_with fail
    refine (lexPastBlank R s k 0 0 0 _ HR.out).mono ?_
    rintro e' w1 ⟨rfl, hR1, hG1⟩
    have hn1 := runL_le cBlank (sfx s k)
    rw [sfx_len] at hn1
    have hgb := gap_blank (sfx s k)
    have hend := runL_end cBlank (sfx s k)
    rw [sfx_drop] at hgb hend
    rw [sfx_len] at hend
    generalize runL cBlank (sfx s k) = n1 at *
    obtain ⟨j, hj⟩ : ∃ j, k + n1 = j := ⟨_, rfl⟩
    rw [hj] at hgb hend hR1
    have hI1 : Hid (j + (gapL (sfx s j) false).1 = J ∧ (gapL (sfx s j) false).2 = OK) := Lib.hid (by have := hI.out; rw [hgb] at this; exact ⟨by have := this.1; simp only at this; omega, this.2⟩)
    have hblank : Hid (sfx s j = [] ∨ cBlank (hd (sfx s j)) = false) := Lib.hid (by
      by_cases hjs : j < s.size
      · exact .inr (hend (by omega))
      · exact .inl (sfx_nil (by omega)))
    have HG1 := Lib.hid (gb_trans HG.out hG1)
    have HR1 := Lib.hid hR1
    have hle1 := hR1.le
    clear hgb hend hI hG1 hR1
    by_cases h47 : bt s j = 47 ∧ bt s (j + 1) = 47
    · have h47a : (bt s j != 47) = false := by simp [h47.1]
      have h47b : (bt s (j + 1) != 47) = false := by simp [h47.2]
      have hgm := gap_mark (sfx s j) (by rw [sfx_drop, hd_sfx, hd_sfx]; exact h47)
      clear h47
      have hn2 := runL_le cMark (sfx s j)
      rw [sfx_len] at hn2
      rw [sfx_drop] at hgm
      obtain ⟨n2, hn2e⟩ : ∃ n, runL cMark (sfx s j) = n := ⟨_, rfl⟩
      rw [hn2e] at hgm hn2
      have HN2 := Lib.hid hn2e
      clear hn2e
      obtain ⟨q, hq⟩ : ∃ q, j + n2 = q := ⟨_, rfl⟩
      have hjq : j < q := by omega
      go_wp2_with fail
      refine (lexPeek0 R s j 0 0 0 _ HR1.out).mono ?_
      rintro e' w2 ⟨rfl, m, rfl⟩
      go_wp2_with fail
      refine (lexPeek1 R s j 0 0 0 _ (HR1.out.drewN _)).mono ?_
      rintro e' w2 ⟨rfl, m2, rfl⟩
      go_wp2_with fail
      refine (lexPastMark R s j 0 0 0 _ (HR1.out.drewN _)).mono ?_
      rintro e' w2 ⟨rfl, hR2, hG2⟩
      have hsf : s.size ≤ q ↔ sfx s q = [] := ⟨fun h => sfx_nil h, fun h => by have := sfx_len s q; rw [h] at this; simp at this; omega⟩
      rw [HN2.out, hq] at hR2
      rw [hq] at hgm
      have HR2 := Lib.hid hR2
      have HG2 := Lib.hid (gb_trans (gb_drewN HG1.out _) hG2)
      have hle2 := hR2.le
      have hq0 := hR2.c0
      have hq1 := hR2.c1
      rw [hd_sfx] at hgm
      clear hR2 hG2
      by_cases hqs : q < s.size
      · by_cases h10 : bt s q = 10
        · have hI2 : Hid (q + (gapL (sfx s q) false).1 = J ∧ (gapL (sfx s q) false).2 = OK) := Lib.hid (by
            have h1 := hgm.2.2.1 h10
            have h2 := hI1.out
            rw [h1] at h2
            exact ⟨by have := h2.1; simp only at this; omega, h2.2⟩)
          have h10' : (bt s q != 10) = false := by simp [h10]
          clear hgm h10 hsf
          go_wp2_with fail
          go_quiet (fail)
          go_wp2
          go_roundw
          case rel => exact ⟨q, hle2, HR2.out.drewN _, gb_drewN HG2.out _, hI2⟩
          case measure => simp only [World.cell?_drewN, hq1, hk1]; simp [intOf]; omega
        · have hq2 : q = J ∧ OK = false := by
            have h1 := hgm.2.2.2 (fun h => by have := hsf.2 h; omega) h10
            have h2 := hI1.out
            rw [h1] at h2
            exact ⟨by have := h2.1; simp only at this; omega, h2.2.symm⟩
          have h10' : (bt s q != 10) = true := by simp [h10]
          have HQ := Lib.hid hq2
          clear hgm h10 hsf hq2
          go_wp2_with fail
          go_quiet (fail)
          go_wp2_with fail
          refine (lexWrong R s q 0 0 0 13 _ (HR2.out.drewN _)).mono ?_
          rintro e' w3 ⟨rfl, hR3, hG3⟩
          go_wp2
          ((try simp only [Exit.inBlock, Exit.then]); refine bodyPost_ret (results_none rfl _ _ _) rfl ?_)
          rw [HQ.out.1] at hR3
          exact ⟨rfl, .inr ⟨HQ.out.2, hR3⟩, gb_trans (gb_drewN HG2.out _) hG3⟩
      · have hI2 : Hid (q + (gapL (sfx s q) false).1 = J ∧ (gapL (sfx s q) false).2 = OK) := Lib.hid (by
          have h1 := hgm.2.1 (hsf.1 (by omega))
          have h2 := hI1.out
          rw [h1] at h2
          rw [sfx_nil (by omega)]
          exact ⟨by have := h2.1; simp only at this; simp [gapL]; omega, h2.2⟩)
        have hd : decide ((q : Int) < (s.size : Int)) = false := by simp; omega
        clear hgm hsf
        go_wp2_with fail
        go_quiet (fail)
        go_wp2
        go_roundw
        case rel => exact ⟨q, hle2, HR2.out.drewN _, gb_drewN HG2.out _, hI2⟩
        case measure => simp only [World.cell?_drewN, hq1, hk1]; simp [intOf]; omega
    · have hz := gap_stop (sfx s j) hblank.out (by rw [sfx_drop, hd_sfx, hd_sfx]; exact h47)
      have hjJ : j = J ∧ (gapL (sfx s j) false).2 = OK := by have := hI1.out; rw [hz] at this; exact ⟨by omega, this.2⟩
      have HF : Hid (RD w1 R s J 0 0 0) := Lib.hid (by rw [← hjJ.1]; exact HR1.out)
      clear hjJ hz
      by_cases ha : bt s j = 47
      · have h47a : (bt s j != 47) = false := by simp [ha]
        have h47b : (bt s (j + 1) != 47) = true := by simp; exact fun hb => h47 ⟨ha, hb⟩
        clear ha h47
        go_wp2_with fail
        refine (lexPeek0 R s j 0 0 0 _ HR1.out).mono ?_
        rintro e' w2 ⟨rfl, m, rfl⟩
        go_wp2_with fail
        refine (lexPeek1 R s j 0 0 0 _ (HR1.out.drewN _)).mono ?_
        rintro e' w2 ⟨rfl, m2, rfl⟩
        go_wp2
        ((try simp only [Exit.inBlock, Exit.then]); refine bodyPost_ret (results_none rfl _ _ _) rfl ?_)
        exact ⟨rfl, .inl (HF.out.drewN _), gb_drewN HG1.out _⟩
      · have h47a : (bt s j != 47) = true := by simp [ha]
        clear ha h47
        go_wp2_with fail
        refine (lexPeek0 R s j 0 0 0 _ HR1.out).mono ?_
        rintro e' w2 ⟨rfl, m, rfl⟩
        go_wp2
        ((try simp only [Exit.inBlock, Exit.then]); refine bodyPost_ret (results_none rfl _ _ _) rfl ?_)
        exact ⟨rfl, .inl (HF.out.drewN _), gb_drewN HG1.out _⟩
end Go.Proofs.YtmelilppeikdiaaDoor
