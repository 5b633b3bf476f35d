/- The walk of LexQuotes. -/
import Derived.Test.YtmelilppeikdiaaLaw09b
import Derived.Test.YtmelilppeikdiaaQuote
namespace Go.Proofs.Ytmelilppeikdiaa
open Go.RowKit Go.PlainAid
set_option linter.unusedVariables false
set_option linter.unusedSimpArgs false

set_option maxRecDepth 100000 in
set_option maxHeartbeats 4000000 in
theorem walkQuotes (s : ByteArray) (m : Int) (w : World) (ws : s.size ≤ maxLen) (hm : w.cell? ⟨0, 0, none⟩ = some (.int .i64 m)) :
    Calls Try.prog 7 #[.string s] w fun e w' => e = .returned (.bool true) ∧ Below w.heap.size w w' := by
  unfold maxLen at ws
  have HM := Lib.hid hm
  clear hm
  by_cases hl : 1100 < s.size
  · go_enter Try.func7, Try.ntmps7
    go_wp2_with (first | (go_at_call 8; refine (awake09 m _ HM.out).mono ?_; rintro e w1 ⟨rfl, hb1⟩; have HB1 := Lib.hid hb1; clear hb1))
    go_ret
    exact ⟨rfl, HB1.out⟩
  · have hdl : s.data.toList.length = s.size := by simp
    obtain ⟨S, hS⟩ : ∃ S, mkB (quoteL s.data.toList) = S := ⟨_, rfl⟩
    have hSl : S.data.toList = quoteL s.data.toList := by rw [← hS]; rfl
    have hSz : S.size ≤ 65536 := by
      rw [← hS, mkB_size]
      have := (qL_len s.data.toList).2
      simp [quoteL]; omega
    have HQ := Lib.hid (fun w => lexQuote s w (by omega))
    rw [hS] at HQ
    have HA := Lib.hid (fun w h => lexAll_fits S m w hSz h)
    have HT := Lib.hid (fun w => refIsText s w (by omega))
    have hP := all_quote S s.data.toList hSl hSz
    have HG := Lib.hid (allR_good S hSz)
    have HBs := Lib.hid (mkB_of s)
    have HTL := Lib.hid (mkB_toList s.data.toList)
    generalize allR S = A at HA hP HG
    generalize isTextL s.data.toList = T at HT hP
    have HP := Lib.hid hP
    clear hP hS hSl hSz hdl
    go_enter Try.func7, Try.ntmps7
    go_wp2_with fail
    refine (HQ.out _).mono ?_
    rintro e w1 ⟨rfl, hb1⟩
    have HB1 := Lib.hid hb1
    have HM1 := Lib.hid (hm_below HM.out hb1)
    clear hb1
    go_wp2_with fail
    refine (HA.out _ HM1.out).mono ?_
    rintro e w2 ⟨v2, rfl, hv2, hb2⟩
    have HB2 := Lib.hid (fun o => bl_a (bl_then HB1.out hb2) o)
    have HM2 := Lib.hid (fun o => hm_below HM.out (HB2.out o))
    have HV2 := Lib.hid hv2
    clear hb2 hv2
    cases T with
    | false =>
      have hE := HP.out.2 rfl
      obtain ⟨ht, _, _, _, _⟩ := HG.out.bad hE
      have hv := HV2.out
      rw [ht] at hv
      obtain ⟨ad, c, rfl⟩ := hv.len
      simp only [tokRows, List.map_nil, List.length_nil]
      have hB1 : (A.err == 0) = false := by simp [hE]
      clear hv ht hE
      go_wp2_with (first
        | (go_at_call 18; refine (HT.out _).mono ?_; rintro e w3 ⟨rfl, rfl⟩)
        | (go_at_call 8; refine (awake09 m _ (HM2.out _)).mono ?_; rintro e w4 ⟨rfl, hb4⟩; have HB4 := Lib.hid hb4; clear hb4))
      go_ret
      exact ⟨rfl, bl_then (HB2.out _) HB4.out⟩
    | true =>
      obtain ⟨e, hAe⟩ := HP.out.1 rfl
      subst hAe
      obtain ⟨b, off, c, hv, hblt, hcell⟩ := HV2.out.open (by simp [tokRows])
      have e0 := hcell 0 0 (by simp [tokRows]) (by decide)
      have e1 := hcell 0 1 (by simp [tokRows]) (by decide)
      have e2 := hcell 0 2 (by simp [tokRows]) (by decide)
      have e3 := hcell 0 3 (by simp [tokRows]) (by decide)
      have e4 := hcell 0 4 (by simp [tokRows]) (by decide)
      simp [tokRows, tokCells] at e0 e1 e2 e3 e4 hv
      rw [HBs.out] at e1
      subst hv
      clear hcell
      go_wp2_with (first
        | (go_at_call 18; refine (HT.out _).mono ?_; rintro e w3 ⟨rfl, rfl⟩)
        | (go_at_call 8; refine (awake09 m _ (HM2.out _)).mono ?_; rintro e w4 ⟨rfl, hb4⟩; have HB4 := Lib.hid hb4; clear hb4))
      go_ret
      exact ⟨rfl, bl_then (HB2.out _) HB4.out⟩
end Go.Proofs.Ytmelilppeikdiaa
