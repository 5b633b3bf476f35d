/- The reader's past, at Marks. -/
import Derived.Test.YtmelilppeikdiaaDoorPast
namespace Go.Proofs.YtmelilppeikdiaaDoor
open Go.RowKit Go.PlainAid

theorem lexPastMark (R : Nat) (s : ByteArray) (i : Nat) (e fl fc : Int) (w : World) (h : RD w R s i e fl fc) :
    Calls Tryd.prog 25 #[.pointer (some ⟨R, 0, none⟩), .func (.func 28) #[] #[]] w fun e' w' =>
      e' = .returned (.string (mkB ((sfx s i).take (runL cMark (sfx s i))))) ∧ RD w' R s (i + runL cMark (sfx s i)) e fl fc ∧ w.grownBy w' (some R) := by
  have hb := get_bt s
  have hi1 := h.c1
  have hlim := h.lim
  have hRD := Lib.hid h
  have hN := runL_le cMark (sfx s i)
  rw [sfx_len] at hN
  have hle := h.le
  clear h
  obtain ⟨N, hNe⟩ : ∃ N, runL cMark (sfx s i) = N := ⟨_, rfl⟩
  rw [hNe] at hN ⊢
  have HN := Lib.hid hNe
  clear hNe
  have HX := Lib.hid (ext_sfx s i N)
  go_enter Tryd.func25, Tryd.ntmps25
  go_wp2_with fail
  go_loopw [10] (fun _ wr => ∃ k : Nat, i ≤ k ∧ k ≤ s.size ∧ RD wr R s k e fl fc ∧ w.grownBy wr (some R) ∧ Hid (k + runL cMark (sfx s k) = i + N)) (fun _ wr => s.size - (intOf ((wr.cell? ⟨R, 1, none⟩).getD default)).toNat)
  case atStart => exact ⟨i, Nat.le_refl _, hle, hRD.out, gb_refl _ _, Lib.hid (by rw [HN.out])⟩
  case round =>
    obtain ⟨k, hik, hk, hR, hG, hI⟩ := hrel
    have h0 := hR.c0
    have h1 := hR.c1
    have HR := Lib.hid hR
    have HG := Lib.hid hG
    clear hR hG
    by_cases hlt : k < s.size
    · obtain ⟨b, hsf, hbv⟩ := sfx_cons hlt
      have hst : Hid (k + (if cMark (bt s k) = true then runL cMark (sfx s (k + 1)) + 1 else 0) = i + N) := Lib.hid (by rw [← hI.out, hsf, runL, hbv])
      clear hsf hbv hI b
      cases hpc : cMark (bt s k) with
      | true =>
        have hst' := Lib.hid (show k + 1 + runL cMark (sfx s (k + 1)) = i + N by have := hst.out; rw [hpc, if_pos rfl] at this; omega)
        have HC : Hid (∀ w : World, Calls Tryd.prog 28 #[.int .u8 (bt s k)] w fun e w' => e = .returned (.bool true) ∧ w = w') := Lib.hid (fun w => by have := lexMark (bt s k) w; rw [hpc] at this; exact this)
        clear hst hpc
        go_wp2_with fail
        go_quiet ((go_at_call 28; exact quiet_eq (HC.out _)))
        go_wp2_with (go_at_call 39; refine (lexStep R s k e fl fc _ (HR.out.drewN _) hlt).mono ?_; rintro e' w' ⟨rfl, hR', hG'⟩)
        go_roundw
        case rel => exact ⟨k + 1, by omega, hlt, hR', gb_trans (gb_drewN HG.out _) hG', hst'⟩
        case measure => rw [hR'.c1, h1]; simp [intOf]; omega
      | false =>
        have hkN : k = i + N := by have := hst.out; rw [hpc] at this; simpa using this
        have HC : Hid (∀ w : World, Calls Tryd.prog 28 #[.int .u8 (bt s k)] w fun e w' => e = .returned (.bool false) ∧ w = w') := Lib.hid (fun w => by have := lexMark (bt s k) w; rw [hpc] at this; exact this)
        have HK := Lib.hid hkN
        clear hst hpc hkN
        go_wp2_with fail
        go_quiet ((go_at_call 28; exact quiet_eq (HC.out _)))
        go_wp2_with fail
        go_quiet (fail)
        go_wp2
        go_ret
        exact ⟨ret_s (by rw [HK.out]; exact HX.out), by rw [← HK.out]; exact (HR.out.drewN _).drewN _, gb_drewN (gb_drewN HG.out _) _⟩
    · have hkN : k = i + N := by
        have h1 := hI.out
        rw [sfx_nil (by omega)] at h1
        have h2 : runL cMark [] = 0 := rfl
        omega
      have HK := Lib.hid hkN
      clear hI hkN
      have hd : decide ((k : Int) < (s.size : Int)) = false := by simp; omega
      go_wp2_with fail
      go_quiet (fail)
      go_wp2_with fail
      go_quiet (fail)
      go_wp2
      go_ret
      exact ⟨ret_s (by rw [HK.out]; exact HX.out), by rw [← HK.out]; exact (HR.out.drewN _).drewN _, gb_drewN (gb_drewN HG.out _) _⟩
end Go.Proofs.YtmelilppeikdiaaDoor
