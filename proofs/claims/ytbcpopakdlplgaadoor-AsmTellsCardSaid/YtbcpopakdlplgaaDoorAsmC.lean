/- Contracts of op.Name and clewref27.Name. -/
import Derived.Test.YtbcpopakdlplgaaDoorAsmA
import Derived.Test.YtbcpopakdlplgaaDoorAsmNames
import Derived.Test.YtbcpopakdlplgaaDoorBytes
import Derived.LoopTactic
import Derived.Outline
namespace Go.Proofs.YtbcpopakdlplgaaDoor
open Go.RowKit Go.PlainAid
set_option linter.unusedVariables false
set_option linter.unusedSimpArgs false

theorem row_len : allRow.length = 207 := by decide +kernel
theorem row_bt (k : Nat) (h : k < allRow.length) : bt (mkB allRow) k = (allRow[k].toNat : Int) := by
  have := by_at (mkB allRow) k (by simpa [mkB] using h)
  simpa [mkB] using this
theorem row_ext (k : Nat) (h : k < allRow.length) : (mkB allRow).extract k (k + 1) = mkB [allRow[k]] := by
  rw [by_cut, Nat.add_sub_cancel_left]
  show mkB ((allRow.drop k).take 1) = _
  rw [List.drop_eq_getElem_cons h]; rfl
theorem byte_32 (c : UInt8) : c ≠ 32 ↔ ¬ ((c.toNat : Int) = 32) := by
  constructor
  · intro h e; exact h (UInt8.toNat_inj.1 (by have : (32 : UInt8).toNat = 32 := rfl; omega))
  · intro h e; rw [e] at h; exact h rfl
set_option maxRecDepth 100000 in
set_option maxHeartbeats 4000000 in
theorem refNameC (op : Int) (w : World) : Calls Tryd.prog 44 #[.int .i64 op] w fun e w' => e = .returned (.string (mkB (nmA op))) ∧ w = w' := by
  have HS := Lib.hid (scan_name op)
  have hb := get_bt (mkB allRow)
  go_enter Tryd.func44, Tryd.ntmps44
  go_wp2
  go_loop [3, 4, 5] (fun n one i => ∃ (k : Nat) (m : Int) (L : List UInt8), i = .int .i64 k ∧ k ≤ 207 ∧ n = .int .i64 m ∧ 0 ≤ m ∧ m ≤ k ∧ one = .string (mkB L) ∧ L.length ≤ k ∧ Hid (scanN op (allRow.drop k) m L = nmA op)) (fun _ _ i => 207 - (intOf i).toNat)
  case atStart => exact ⟨0, 0, [], rfl, by omega, rfl, by omega, by omega, rfl, by simp, HS⟩
  case round =>
    obtain ⟨k, m, L, rfl, hk, rfl, hm0, hmk, rfl, hL, HI⟩ := hrel
    have hsz : (mkB L).size ≤ 300 := by rw [mkB_size]; omega
    by_cases hlt : k < 207
    · have hkl : k < allRow.length := by rw [row_len]; exact hlt
      have hst : allRow.drop k = allRow[k] :: allRow.drop (k + 1) := List.drop_eq_getElem_cons hkl
      have hJ := HI.out
      rw [hst, scanN] at hJ
      have HJ := Lib.hid hJ
      have HX := Lib.hid (row_ext k hkl)
      have HC := Lib.hid (byte_32 allRow[k])
      have hr : min (k + 1) 207 - k = 1 := by omega
      clear hst hJ
      go_wp2
      · have h : ((allRow[k].toNat : Int) != 32) = true := by assumption
        have hc : allRow[k] ≠ 32 := HC.out.2 (by simpa using h)
        go_round
        case rel =>
          refine ⟨k + 1, m, L ++ [allRow[k]], by go_num, by omega, rfl, hm0, by omega, ?_, by simp; omega, Lib.hid ?_⟩
          · exact congrArg Value.string ((congrArg (mkB L ++ ·) HX.out).trans (mkB_app _ _))
          · have := HJ.out; rw [if_pos hc] at this; exact this
        case measure => simp [intOf]; omega
      · have h : ((allRow[k].toNat : Int) != 32) = false := by assumption
        have h2 : m = op := by assumption
        have h3 : 0 < op := by assumption
        have hc : ¬ (allRow[k] ≠ 32) := fun hc => by have := HC.out.1 hc; simp at h; omega
        have h0 : L = nmA op := by have := HJ.out; rw [if_neg hc, if_pos ⟨h2, h3⟩] at this; exact this
        go_ret
        exact ⟨ret_s (by rw [h0]), rfl⟩
      · have h : ((allRow[k].toNat : Int) != 32) = false := by assumption
        have h3 : op ≤ 0 := by assumption
        have hc : ¬ (allRow[k] ≠ 32) := fun hc => by have := HC.out.1 hc; simp at h; omega
        go_round
        case rel =>
          refine ⟨k + 1, op + 1, [], by go_num, by omega, rfl, by omega, by omega, rfl, by simp, Lib.hid ?_⟩
          have := HJ.out; rw [if_neg hc, if_neg (by omega)] at this; rw [← this]; congr 1; omega
        case measure => simp [intOf]; omega
      · have h : ((allRow[k].toNat : Int) != 32) = false := by assumption
        have h3 : ¬ m = op := by assumption
        have hc : ¬ (allRow[k] ≠ 32) := fun hc => by have := HC.out.1 hc; simp at h; omega
        go_round
        case rel =>
          refine ⟨k + 1, m + 1, [], by go_num, by omega, rfl, by omega, by omega, rfl, by simp, Lib.hid ?_⟩
          have := HJ.out; rw [if_neg hc, if_neg (fun e => h3 e.1)] at this; exact this
        case measure => simp [intOf]; omega
    · have hk2 : k = 207 := by omega
      subst hk2
      have h0 : nmA op = [] := by rw [← HI.out, ← row_len, List.drop_length]; rfl
      go_wp2
      go_ret
      exact ⟨rfl, rfl⟩
end Go.Proofs.YtbcpopakdlplgaaDoor
