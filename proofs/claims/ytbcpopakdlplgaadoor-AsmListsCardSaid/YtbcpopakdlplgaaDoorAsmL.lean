/- The walk of AsmLists. -/
import Derived.Test.YtbcpopakdlplgaaDoorAsmLaw
import Derived.Test.YtbcpopakdlplgaaDoorAsmT3
import Derived.Test.YtbcpopakdlplgaaDoorAsmP2
namespace Go.Proofs.YtbcpopakdlplgaaDoor
open Go.RowKit Go.PlainAid Go.Maps
set_option linter.unusedVariables false
set_option linter.unusedSimpArgs false

/-- What Disassemble answers, read as a list. -/
theorem dis_reads {w w1 : World} {b : List UInt8} {e : Ending} (hb : b.length ≤ 4000) (h : DisOut w (disP b) e w1) : ∃ v l x, e = .returned (.tuple #[v, .int .i64 x]) ∧ Reads Cd.ins.seq w1 v l ∧ Below w.heap.size w w1 ∧ l = (match disP b with | .inl _ => [] | .inr l => l) ∧ x = (match disP b with | .inl y => y | .inr _ => 0) := by
  obtain ⟨h1, h2⟩ := h
  cases hd : disP b with
  | inl y =>
    rw [hd] at h2
    exact ⟨_, [], y, h2, nil_reads w1, h1, rfl, rfl⟩
  | inr l =>
    rw [hd] at h2
    obtain ⟨v, h3, h4⟩ := h2
    have := dis_inw hb hd
    exact ⟨v, l, 0, h3, OwI.reads h4 (by unfold maxLen; omega) this.1, h1, rfl, rfl⟩
set_option maxRecDepth 100000 in
set_option maxHeartbeats 4000000 in
theorem walkLists (v0 v1 : Value) (b : List UInt8) (l : List IN) (w : World) (hr0 : Reads Cd.byte.seq w v0 b) (hr1 : Reads Cd.ins.seq w v1 l) (htab : Tab w) : Calls Tryd.prog 5 #[v0, v1] w fun e w' => e = .returned (.bool true) ∧ Below w.heap.size w w' := by
  have HTab := Lib.hid htab
  have HAW := Lib.hid (fun w' (hb : Below w.heap.size w w') => awakeC w' (tab_belowA HTab.out hb))
  obtain ⟨a0, c0, hv0, hcap0, hm0⟩ := hr0.len
  obtain ⟨a1, c1, hv1, hcap1, hm1⟩ := hr1.len
  subst hv0; subst hv1
  have HR0 := Lib.hid hr0
  have HR1 := Lib.hid hr1
  obtain ⟨n, hn⟩ : ∃ n, b.length = n := ⟨_, rfl⟩
  obtain ⟨m, hm⟩ : ∃ m, l.length = m := ⟨_, rfl⟩
  have HN := Lib.hid hn
  have HM := Lib.hid hm
  rw [hn] at HR0 hcap0 hm0 ⊢
  rw [hm] at HR1 hcap1 hm1 ⊢
  unfold maxLen at hm0 hm1
  clear hr0 hr1 hn hm htab
  by_cases hb0 : 300 < n
  · go_enter Tryd.func5, Tryd.ntmps5
    go_wp2_with (go_at_call 10; refine (HAW.out _ (Below.refl _ _)).mono ?_; rintro e w1 ⟨rfl, hb1⟩)
    go_ret
    exact ⟨rfl, hb1⟩
  · by_cases hb1' : 150 < m
    · go_enter Tryd.func5, Tryd.ntmps5
      go_wp2_with (go_at_call 10; refine (HAW.out _ (Below.refl _ _)).mono ?_; rintro e w1 ⟨rfl, hb1⟩)
      go_ret
      exact ⟨rfl, hb1⟩
    · obtain ⟨L, hL⟩ : ∃ L, (match disP b with | .inl _ => [] | .inr l => l) = L := ⟨_, rfl⟩
      obtain ⟨X, hX⟩ : ∃ X, (match disP b with | .inl y => y | .inr _ => 0) = X := ⟨_, rfl⟩
      have HA := Lib.hid (fun w h => (disC (.slice a0 n c0) b w h (by rw [HN.out]; omega)).mono fun e w1 h => dis_reads (by rw [HN.out]; omega) h)
      have HB := Lib.hid (fun w h => (rdisC (.slice a0 n c0) b w h (by rw [HN.out]; omega)).mono fun e w1 h => dis_reads (by rw [HN.out]; omega) h)
      rw [hL, hX] at HA HB
      clear hL hX
      go_enter Tryd.func5, Tryd.ntmps5
      go_wp2_with fail
      refine (HA.out _ HR0.out).mono ?_
      rintro e w1 ⟨v1, l1, x1, rfl, hr1, hb1, rfl, rfl⟩
      have HRa := Lib.hid hr1
      have H1 := Lib.hid hb1
      clear hr1 hb1
      go_wp2_with fail
      refine (HB.out _ (HR0.out.below H1.out)).mono ?_
      rintro e w2 ⟨v2, l2, x2, rfl, hr2, hb2, rfl, rfl⟩
      have HRb := Lib.hid hr2
      have H12 := Lib.hid hb2
      clear hr2 hb2
      go_wp2_with fail
      refine (sameC _ _ _ _ (HRa.out.below H12.out) HRb.out).mono ?_
      rintro e w3 ⟨rfl, q, rfl⟩
      have H3 := Lib.hid (bl_drewN (bl_thenA H1.out H12.out) q)
      go_wp2_with fail
      refine (printC _ l _ (HR1.out.below H3.out) (by rw [HM.out]; omega) (tab_belowA HTab.out H3.out)).mono ?_
      rintro e w4 ⟨rfl, hb4⟩
      have H4 := Lib.hid (bl_thenA H3.out hb4)
      clear hb4
      go_wp2_with fail
      refine (refPrintC _ l _ (HR1.out.below H4.out) (by rw [HM.out]; omega)).mono ?_
      rintro e w5 ⟨rfl, hb5⟩
      have H5 := Lib.hid (bl_thenA H4.out hb5)
      clear hb5
      go_wp2_with (go_at_call 10; refine (HAW.out _ H5.out).mono ?_; rintro e w6 ⟨rfl, hb6⟩)
      go_ret
      exact ⟨rfl, bl_thenA H5.out hb6⟩
end Go.Proofs.YtbcpopakdlplgaaDoor
