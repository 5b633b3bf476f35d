/- Contracts of out.wide, clewref44.wide, clewref44.split. -/
import Derived.Test.YtfnadieccdgnnaaDoorBytes
import Derived.Test.YtfnadieccdgnnaaDoorOutPlain2
namespace Go.Proofs.YtfnadieccdgnnaaDoor
open Go.RowKit Go.PlainAid
set_option linter.unusedVariables false
set_option linter.unusedSimpArgs false

/-- The width that counts. -/
def wideN (n : Int) : Nat := (min (max n 1) 256).toNat
theorem wide_bd (n : Int) : 1 ≤ wideN n ∧ wideN n ≤ 256 := by unfold wideN; omega
theorem wide_int (n : Int) : ((wideN n : Nat) : Int) = min (max n 1) 256 := by unfold wideN; omega
theorem outWide (n : Int) (w : World) : Calls Tryd.prog 17 #[.int .i64 n] w fun e w' => e = .returned (.int .i64 (wideN n)) ∧ w = w' := by
  have HW := Lib.hid (wide_int n)
  by_cases h1 : n < 1
  · go_enter Tryd.func17, Tryd.ntmps17
    go_wp2
    all_goals first
      | (go_ret; exact ⟨ret_i (by have := HW.out; omega), rfl⟩)
      | (exfalso; simp_all; done)
  · have h1' : 1 ≤ n := by omega
    by_cases h2 : 256 < n
    · clear h1
      go_enter Tryd.func17, Tryd.ntmps17
      go_wp2
      all_goals first
        | (go_ret; exact ⟨ret_i (by have := HW.out; omega), rfl⟩)
    · have h2' : n ≤ 256 := by omega
      clear h1 h2
      go_enter Tryd.func17, Tryd.ntmps17
      go_wp2
      all_goals first
        | (go_ret; exact ⟨ret_i (by have := HW.out; omega), rfl⟩)
theorem refWide (n : Int) (w : World) : Calls Tryd.prog 20 #[.int .i64 n] w fun e w' => e = .returned (.int .i64 (wideN n)) ∧ w = w' := by
  have HW := Lib.hid (wide_int n)
  by_cases h1 : n < 1
  · go_enter Tryd.func20, Tryd.ntmps20
    go_wp2
    all_goals first
      | (go_ret; exact ⟨ret_i (by have := HW.out; omega), rfl⟩)
      | (exfalso; simp_all; done)
  · have h1' : 1 ≤ n := by omega
    by_cases h2 : 256 < n
    · clear h1
      go_enter Tryd.func20, Tryd.ntmps20
      go_wp2
      all_goals first
        | (go_ret; exact ⟨ret_i (by have := HW.out; omega), rfl⟩)
    · have h2' : n ≤ 256 := by omega
      clear h1 h2
      go_enter Tryd.func20, Tryd.ntmps20
      go_wp2
      all_goals first
        | (go_ret; exact ⟨ret_i (by have := HW.out; omega), rfl⟩)

theorem spl_len (c : UInt8) : ∀ (l cur : List UInt8), (spl c l cur).length ≤ l.length + 1
  | [], cur => by simp [spl]
  | b :: t, cur => by
    rw [spl]; split
    · have := spl_len c t []; simp; omega
    · have := spl_len c t (cur ++ [b]); simp; omega
/-- The bytes from i to k. -/
def cutN (s : ByteArray) (i k : Nat) : List UInt8 := (s.data.toList.drop i).take (k - i)
theorem cut_snoc (s : ByteArray) (i k : Nat) (hi : i ≤ k) (h : k < s.data.toList.length) : cutN s i (k + 1) = cutN s i k ++ [s.data.toList[k]] := by
  unfold cutN
  have h2 : k - i < (s.data.toList.drop i).length := by simp at h ⊢; omega
  rw [show k + 1 - i = (k - i) + 1 by omega, List.take_succ_eq_append_getElem h2, List.getElem_drop]
  congr 2
  simp; congr 1; omega
theorem cut_none (s : ByteArray) (i : Nat) : cutN s i i = [] := by unfold cutN; simp
theorem cut_end (s : ByteArray) (i : Nat) (h : i ≤ s.size) : cutN s i s.size = s.data.toList.drop i := by
  unfold cutN; rw [List.take_of_length_le (by simp)]

set_option maxHeartbeats 2000000 in
theorem refSplit44 (s : ByteArray) (c : UInt8) (w : World) (hs : s.size ≤ 100000) :
    Calls Tryd.prog 18 #[.string s, .int .u8 (c.toNat : Int)] w fun e w' => ∃ v, e = .returned v ∧ OwS w' w.heap.size v (spl c s.data.toList []) ∧ Below w.heap.size w w' := by
  have hb := get_bt s
  obtain ⟨i0, hi, hz0, hz1, hz2⟩ := info_parts Tryd.infoStr
  have hlen0 := by_len s
  have HLEN := Lib.hid hlen0
  clear hlen0
  obtain ⟨C, hC⟩ : ∃ C : Int, (c.toNat : Int) = C := ⟨_, rfl⟩
  rw [hC]
  have HC := Lib.hid hC
  clear hC
  go_enter Tryd.func18, Tryd.ntmps18
  go_wp2
  go_loopw [5, 6, 7] (fun v f p wr => ∃ (i k : Nat) (L : List (List UInt8)), f = .int .i64 i ∧ p = .int .i64 k ∧ i ≤ k ∧ k ≤ s.size ∧ L.length ≤ k ∧ OwS wr w.heap.size v L ∧ Hid (Below w.heap.size w wr) ∧ Hid (L ++ spl c (s.data.toList.drop k) (cutN s i k) = spl c s.data.toList [])) (fun _ _ p _ => s.size - (intOf p).toNat)
  case atStart => exact ⟨0, 0, [], rfl, rfl, by omega, by omega, by simp, OwS.nil _ _, Lib.hid (Below.refl _ _), Lib.hid (by simp [cut_none])⟩
  case round =>
    obtain ⟨i, k, L, rfl, rfl, hik, hks, hLk, hown, hB, hI⟩ := hrel
    obtain ⟨va, vc, hv⟩ := ow_shape hown
    subst hv
    have hb1 : L.length + 1 ≤ maxLen ∧ (L.length + 1) * 16 ≤ 140737488355328 := by unfold maxLen; omega
    have hlo := ow_lo hown
    have HLO := Lib.hid hlo
    have HOwn := Lib.hid hown
    clear hown hlo
    have hEx : Hid (s.extract i k = mkB (cutN s i k)) := Lib.hid (by_cut s i k)
    have hsz := hB.out.size
    by_cases hlt : k < s.size
    · have hkl : k < s.data.toList.length := by rw [HLEN.out]; exact hlt
      have hst : s.data.toList.drop k = s.data.toList[k] :: s.data.toList.drop (k + 1) := List.drop_eq_getElem_cons hkl
      have hcs := cut_snoc s i k hik hkl
      have heq := by_eq s k hkl c
      rw [HC.out] at heq
      by_cases hbc : bt s k = C
      · have hI2 : Hid ((L ++ [cutN s i k]) ++ spl c (s.data.toList.drop (k + 1)) (cutN s (k + 1) (k + 1)) = spl c s.data.toList []) := Lib.hid (by
          have := hI.out
          rw [hst, heq.2 hbc, spl_at] at this
          rw [cut_none, List.append_assoc]; exact this)
        have hbc' : (bt s k == C) = true := by simp [hbc]
        clear hbc heq hcs hst hkl hI
        go_wp2_with (at_builtin; refine wpList_append_own _ rfl _ _ 24 rfl w.heap.size 9 i0 (.string ByteArray.empty) 1 16 Tryd.underlying24 hi hz0 hz1 hz2 rfl (by decide) _ _ _ rfl (HOwn.out.alloc _) ⟨wr.heap.size, 0, none⟩ 1 1 [.string (s.extract i k)] rfl rfl (cell_one_new _ _ _) (ow_one rfl) hb1.1 hb1.2 (ow_le hsz _) ?_; intro v5 w5 hown5 hgrow5 _)
        have hB5 := Lib.hid (bl_g (bl_a hB.out _) hgrow5 HLO.out)
        rw [hEx.out] at hown5
        have hO5 := OwS.snoc (x := cutN s i k) hown5
        clear hown5 hgrow5
        go_wp2
        go_roundw
        case rel => exact ⟨k + 1, k + 1, _, by go_num, by go_num, by omega, by omega, by simp; omega, hO5, hB5, hI2⟩
        case measure => simp [intOf]; omega
      · have hI2 : Hid (L ++ spl c (s.data.toList.drop (k + 1)) (cutN s i (k + 1)) = spl c s.data.toList []) := Lib.hid (by
          have := hI.out
          rw [hst, spl, if_neg (fun e => hbc (heq.1 e))] at this
          rw [hcs]; exact this)
        have hbc' : (bt s k == C) = false := by simp [hbc]
        clear hbc heq hcs hst hkl hI
        go_wp2
        go_roundw
        case rel => exact ⟨i, k + 1, L, rfl, by go_num, by omega, by omega, by omega, HOwn.out, hB, hI2⟩
        case measure => simp [intOf]; omega
    · have hke : k = s.size := by omega
      have hI2 : Hid (L ++ [cutN s i k] = spl c s.data.toList []) := Lib.hid (by
        have := hI.out
        rw [List.drop_eq_nil_of_le (by rw [HLEN.out]; omega)] at this
        exact this)
      subst hke
      clear hI
      go_wp2_with (at_builtin; refine wpList_append_own _ rfl _ _ 24 rfl w.heap.size 9 i0 (.string ByteArray.empty) 1 16 Tryd.underlying24 hi hz0 hz1 hz2 rfl (by decide) _ _ _ rfl (HOwn.out.alloc _) ⟨wr.heap.size, 0, none⟩ 1 1 [.string (s.extract i s.size)] rfl rfl (cell_one_new _ _ _) (ow_one rfl) hb1.1 hb1.2 (ow_le hsz _) ?_; intro v5 w5 hown5 hgrow5 _)
      have hB5 := Lib.hid (bl_g (bl_a hB.out _) hgrow5 HLO.out)
      rw [hEx.out] at hown5
      have hO5 := OwS.snoc (x := cutN s i s.size) hown5
      clear hown5 hgrow5
      go_ret
      exact ⟨_, rfl, by rw [← hI2.out]; exact hO5, hB5.out⟩
end Go.Proofs.YtfnadieccdgnnaaDoor
