/- Contract of clewref30.Print. -/
import Derived.Test.YtbcpopakdlplgaaDoorAsmP
import Derived.Test.YtbcpopakdlplgaaDoorAsmC
import Derived.Test.YtbcpopakdlplgaaDoorAsmY
namespace Go.Proofs.YtbcpopakdlplgaaDoor
open Go.RowKit Go.PlainAid Go.Maps Go.Lib Go.Sort
set_option linter.unusedVariables false
set_option linter.unusedSimpArgs false

set_option maxRecDepth 100000 in
set_option maxHeartbeats 8000000 in
theorem refPrintC (v : Value) (l : List IN) (w : World) (hr : Reads Cd.ins.seq w v l) (hl : l.length ≤ 10000) :
    Calls Tryd.prog 19 #[v] w fun e w' => e = .returned (.string (mkB (printP l))) ∧ Below w.heap.size w w' := by
  obtain ⟨a, c, hv, hcap, _⟩ := hr.len
  subst hv
  have HC := Lib.hid (cells_of hr).1
  have HWF := Lib.hid (ins_wf hr)
  obtain ⟨n, hn⟩ : ∃ n, l.length = n := ⟨_, rfl⟩
  have HN := Lib.hid hn
  rw [hn] at hl hcap ⊢
  clear hr hn
  go_enter Tryd.func19, Tryd.ntmps19
  go_wp2
  go_loopw [3, 4] (fun s i wr => ∃ k : Nat, i = .int .i64 k ∧ k ≤ n ∧ s = .string (mkB (printP (l.take k))) ∧ Hid (Below w.heap.size w wr)) (fun _ i _ => n - (RowKit.intOf i).toNat)
  case atStart => exact ⟨0, rfl, Nat.zero_le _, rfl, Lib.hid (Below.refl _ _)⟩
  case round =>
    obtain ⟨k, rfl, hk, rfl, HB⟩ := hrel
    have hpl := print_len HWF.out k (by rw [HN.out]; exact hk)
    obtain ⟨P, hP⟩ : ∃ P, printP (l.take k) = P := ⟨_, rfl⟩
    have HPP := Lib.hid hP
    rw [hP] at hpl ⊢
    have hps : (mkB P).size ≤ 400000 := by rw [mkB_size]; omega
    clear hP
    by_cases hlt : k < n
    · have hkl : k < l.length := by rw [HN.out]; exact hlt
      obtain ⟨b, off, ha, hblt, hw, hx0, hx1⟩ := (HC.out.below HB.out) k hkl
      subst ha
      obtain ⟨x, hx⟩ : ∃ x, l[k] = x := ⟨_, rfl⟩
      rw [hx] at hw hx0 hx1
      have HX := Lib.hid hx
      have hk0 : (0 : Int) ≤ (k : Int) := by omega
      have hk1 : (k : Int) < (n : Int) := by omega
      obtain ⟨N, hN⟩ : ∃ N, nmA x.op = N := ⟨_, rfl⟩
      have HNN := Lib.hid hN
      have hns : (mkB N).size ≤ 9 := by rw [mkB_size, ← hN]; exact nmA_len _
      have HNM := Lib.hid (fun w => refNameC x.op w)
      rw [hN] at HNM
      obtain ⟨T, hT⟩ : ∃ T, itoa x.arg = T := ⟨_, rfl⟩
      have HTT := Lib.hid hT
      have hts : (mk T).size ≤ 21 := by rw [mk_size, ← hT]; exact itoa_short hw.2.1 hw.2.2
      have HTX := Lib.hid (fun w => refText x.arg w hw.2.1 hw.2.2)
      rw [hT] at HTX
      clear hN hT hx hw hpl
      cases hL : isL x with
      | true =>
        have hne : (x.op != 38) = false := by unfold isL at hL; simpa using hL
        cases hA : hasA x.op with
        | true =>
          have HHA := Lib.hid (fun w => refHasC2 x.op true hA w)
          have HS : Hid (printP (l.take (k + 1)) = P ++ ([] ++ (N ++ ((32 :: T) ++ [10])))) := Lib.hid (by
            have h := print_snoc hkl
            rw [HX.out] at h
            rw [h, HPP.out]; unfold lineP; simp [hL, hA, HNN.out, HTT.out])
          clear hL hA
          go_wp2_with (first | (go_at_call 44; refine (HNM.out _).mono ?_; rintro e w1 ⟨rfl, rfl⟩) | (go_at_call 45; refine (HHA.out _).mono ?_; rintro e w2 ⟨rfl, hb2⟩; have HB2 := Lib.hid hb2; have y1 := (hb2.cell (p := ⟨b, off + k * 2 + 1, none⟩) hblt).trans hx1; clear hb2) | (go_at_call 46; refine (HTX.out _).mono ?_; rintro e w3 ⟨rfl, rfl⟩) | (fail))
          go_roundw
          case rel => exact ⟨k + 1, by go_num, by omega, congrArg Value.string (by rw [HS.out]; simp only [c9, c10, c32, mk_mkB, mkB_app, List.append_assoc, List.nil_append, List.cons_append]), Lib.hid (bl_thenA HB.out HB2.out)⟩
          case measure => simp [RowKit.intOf]; omega
        | false =>
          have HHA := Lib.hid (fun w => refHasC2 x.op false hA w)
          have HS : Hid (printP (l.take (k + 1)) = P ++ ([] ++ (N ++ ([] ++ [10])))) := Lib.hid (by
            have h := print_snoc hkl
            rw [HX.out] at h
            rw [h, HPP.out]; unfold lineP; simp [hL, hA, HNN.out, HTT.out])
          clear hL hA
          go_wp2_with (first | (go_at_call 44; refine (HNM.out _).mono ?_; rintro e w1 ⟨rfl, rfl⟩) | (go_at_call 45; refine (HHA.out _).mono ?_; rintro e w2 ⟨rfl, hb2⟩; have HB2 := Lib.hid hb2; have y1 := (hb2.cell (p := ⟨b, off + k * 2 + 1, none⟩) hblt).trans hx1; clear hb2) | (go_at_call 46; refine (HTX.out _).mono ?_; rintro e w3 ⟨rfl, rfl⟩) | (fail))
          go_roundw
          case rel => exact ⟨k + 1, by go_num, by omega, congrArg Value.string (by rw [HS.out]; simp only [c9, c10, c32, mk_mkB, mkB_app, List.append_assoc, List.nil_append, List.cons_append]), Lib.hid (bl_thenA HB.out HB2.out)⟩
          case measure => simp [RowKit.intOf]; omega
      | false =>
        have hne : (x.op != 38) = true := by unfold isL at hL; simpa using hL
        cases hA : hasA x.op with
        | true =>
          have HHA := Lib.hid (fun w => refHasC2 x.op true hA w)
          have HS : Hid (printP (l.take (k + 1)) = P ++ ([9] ++ (N ++ ((32 :: T) ++ [10])))) := Lib.hid (by
            have h := print_snoc hkl
            rw [HX.out] at h
            rw [h, HPP.out]; unfold lineP; simp [hL, hA, HNN.out, HTT.out])
          clear hL hA
          go_wp2_with (first | (go_at_call 44; refine (HNM.out _).mono ?_; rintro e w1 ⟨rfl, rfl⟩) | (go_at_call 45; refine (HHA.out _).mono ?_; rintro e w2 ⟨rfl, hb2⟩; have HB2 := Lib.hid hb2; have y1 := (hb2.cell (p := ⟨b, off + k * 2 + 1, none⟩) hblt).trans hx1; clear hb2) | (go_at_call 46; refine (HTX.out _).mono ?_; rintro e w3 ⟨rfl, rfl⟩) | (fail))
          go_roundw
          case rel => exact ⟨k + 1, by go_num, by omega, congrArg Value.string (by rw [HS.out]; simp only [c9, c10, c32, mk_mkB, mkB_app, List.append_assoc, List.nil_append, List.cons_append]), Lib.hid (bl_thenA HB.out HB2.out)⟩
          case measure => simp [RowKit.intOf]; omega
        | false =>
          have HHA := Lib.hid (fun w => refHasC2 x.op false hA w)
          have HS : Hid (printP (l.take (k + 1)) = P ++ ([9] ++ (N ++ ([] ++ [10])))) := Lib.hid (by
            have h := print_snoc hkl
            rw [HX.out] at h
            rw [h, HPP.out]; unfold lineP; simp [hL, hA, HNN.out, HTT.out])
          clear hL hA
          go_wp2_with (first | (go_at_call 44; refine (HNM.out _).mono ?_; rintro e w1 ⟨rfl, rfl⟩) | (go_at_call 45; refine (HHA.out _).mono ?_; rintro e w2 ⟨rfl, hb2⟩; have HB2 := Lib.hid hb2; have y1 := (hb2.cell (p := ⟨b, off + k * 2 + 1, none⟩) hblt).trans hx1; clear hb2) | (go_at_call 46; refine (HTX.out _).mono ?_; rintro e w3 ⟨rfl, rfl⟩) | (fail))
          go_roundw
          case rel => exact ⟨k + 1, by go_num, by omega, congrArg Value.string (by rw [HS.out]; simp only [c9, c10, c32, mk_mkB, mkB_app, List.append_assoc, List.nil_append, List.cons_append]), Lib.hid (bl_thenA HB.out HB2.out)⟩
          case measure => simp [RowKit.intOf]; omega
    · have hkn : k = n := by omega
      subst hkn
      have HE : Hid (printP l = P) := Lib.hid (by rw [← HPP.out, List.take_of_length_le (by rw [HN.out]; exact Nat.le_refl _)])
      go_wp2
      go_ret
      exact ⟨congrArg (fun q => Ending.returned (Value.string (mkB q))) HE.out.symm, HB.out⟩
end Go.Proofs.YtbcpopakdlplgaaDoor
