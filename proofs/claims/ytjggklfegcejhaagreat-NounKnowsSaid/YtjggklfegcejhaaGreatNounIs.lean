/- Contracts of noun.Is and clewref36.Is. -/
import Derived.Test.YtjggklfegcejhaaGreatNounKey
import Derived.Test.YtjggklfegcejhaaGreatFitsC
import Derived.Test.YtjggklfegcejhaaGreatGrow
namespace Go.Proofs.YtjggklfegcejhaaGreat
open Go.RowKit Go.PlainAid
set_option linter.unusedVariables false
set_option linter.unusedSimpArgs false

theorem isN_no {t : TbC} {i : Int} {ks : List TxC} (h : ¬ (1 ≤ i ∧ i < (t.th.length : Int))) : isN t i ks = false := by unfold isN; simp [h]
theorem isN_at {t : TbC} {k : Nat} {ks : List TxC} (h0 : 1 ≤ (k : Int)) (hk : k < t.th.length) : isN t (k : Int) ks = (!ks.isEmpty && ks.all (hasT t.th[k]) && (t.th[k]).wd.contains (ks.getLastD [])) := by
  unfold isN
  have : decide (1 ≤ (k : Int) ∧ (k : Int) < (t.th.length : Int)) = true := by rw [decide_eq_true_eq]; omega
  rw [this, Int.toNat_natCast, List.getElem?_eq_getElem hk]; rfl
set_option maxRecDepth 100000 in
set_option maxHeartbeats 4000000 in
theorem nounIs (x : TAd) (t : TbC) (i : Int) (a : Option Addr) (ws : List TxC) (c : Nat) (w : World) (ht : TabIs w x t) (hw : Wds w a ws) (hc : ws.length ≤ maxLen) :
    Calls Tryz.prog 64 #[tabV x t, .int .i64 i, .slice a ws.length c] w fun e w' => e = .returned (.bool (isN t i (ws.map keyW))) ∧ Below w.heap.size w w' := by
  have HB0 := Lib.hid (bl_tab w x t)
  have HK0 : Hid (BK (tabW w x t) w.heap.size (tabC x t) 28) := Lib.hid (BK.new w (tabC x t) 28)
  obtain ⟨W0, hW0⟩ : ∃ W0, tabW w x t = W0 := ⟨_, rfl⟩
  rw [hW0] at HB0 HK0
  unfold tabW tabC at hW0
  unfold tabV tabC
  have hm := reads_few ht.th
  unfold maxLen at hm
  by_cases h01 : 1 ≤ i ∧ i < (t.th.length : Int)
  · obtain ⟨h0, h1⟩ := h01
    obtain ⟨k, rfl⟩ : ∃ k : Nat, i = k := ⟨i.toNat, by omega⟩
    have hk : k < t.th.length := by omega
    rw [isN_at h0 hk]
    obtain ⟨m, hwm⟩ : ∃ m, ws.length = m := ⟨_, rfl⟩
    by_cases hn : m = 0
    · have hws : ws = [] := List.length_eq_zero_iff.1 (by omega)
      subst hws
      clear ht hw hc hn hwm
      rw [List.length_nil]
      go_enter Tryz.func64, Tryz.ntmps64
      obtain ⟨kt0, kt1, kt2, kt3, kt4, kt5, kt6, kt7, kt8, kt9, kt10, kt11, kt12, kt13, kt14⟩ := tab15 (HK0.out)
      go_wp2
      go_ret
      exact ⟨rfl, HB0.out⟩
    · obtain ⟨b, off, cap, hv, hcap, hblt, hcell⟩ := th_open ht.th (by omega)
      have hac : x.a8 = some ⟨b, off, none⟩ := by simp at hv; exact hv.1
      obtain ⟨r1, r2, r3, r4, hth, hrow⟩ := hcell k hk
      generalize t.th[k] = y at *
      obtain ⟨a1, c1, rfl, _, hm1, hw1⟩ := reads_wds hth.wd
      have HHAS := Lib.hid (fun s w' (hb : Below W0.heap.size W0 w') => nounHas y r1 (.slice a1 y.wd.length c1) r3 r4 s w' (hth.below (bl_then HB0.out hb)))
      have HAMS := Lib.hid (fun s w' (hb : Below W0.heap.size W0 w') => amongC s a1 y.wd c1 w' (hw1.below (bl_then HB0.out hb)) hm1)
      have HKYS := Lib.hid (fun s w' (hs : s.length ≤ maxLen) => nounKey s w' hs)
      have HROW : Hid (∀ wr, Below W0.heap.size W0 wr → b < wr.heap.size ∧ ∀ j, j < 9 → wr.cell? ⟨b, off + k * 9 + j, none⟩ = (thRow y r1 (.slice a1 y.wd.length c1) r3 r4)[j]?) := Lib.hid (fun wr hb => ⟨Nat.lt_of_lt_of_le hblt (bl_then HB0.out hb).size, fun j hj => ((bl_then HB0.out hb).cell (p := ⟨b, off + k * 9 + j, none⟩) hblt).trans (hrow j hj)⟩)
      have HWD := Lib.hid (fun wr (hb : Below W0.heap.size W0 wr) => hw.below (bl_then HB0.out hb))
      have HWL := Lib.hid hw.1
      have hk0 : (0 : Int) ≤ (k : Int) := by omega
      have hk1 : (k : Int) < (t.th.length : Int) := by omega
      have hm00 : ((m : Int) == 0) = false := by simp; omega
      have hne : (ws.map keyW).isEmpty = false := by cases ws with | nil => simp at hwm; omega | cons a l => rfl
      rw [hne]
      obtain ⟨ra, hra⟩ : ∃ r, (ws.map keyW).all (hasT y) = r := ⟨_, rfl⟩
      obtain ⟨kl, hkl⟩ : ∃ r, (ws.map keyW).getLastD [] = r := ⟨_, rfl⟩
      have HRA := Lib.hid hra
      have HKL : Hid (∀ h : m - 1 < ws.length, keyW ws[m - 1] = kl) := Lib.hid (fun h => by
        rw [← hkl, List.getLastD_eq_getLast?, List.getLast?_eq_getElem?, List.length_map, hwm, List.getElem?_map, List.getElem?_eq_getElem h]; rfl)
      rw [hra, hkl]
      obtain ⟨rc, hrc⟩ : ∃ r, y.wd.contains kl = r := ⟨_, rfl⟩
      rw [hrc]
      have HRC := Lib.hid hrc
      clear hrc
      have HWM := Lib.hid hwm
      rw [hwm]
      unfold thV thRow at HHAS
      unfold maxLen at hc
      rw [hwm] at hc
      clear hcell hv ht hw hw1 hrow hth hne hra hkl hwm
      rw [hac]
      rw [hac] at hW0
      go_enter Tryz.func64, Tryz.ntmps64
      obtain ⟨kt0, kt1, kt2, kt3, kt4, kt5, kt6, kt7, kt8, kt9, kt10, kt11, kt12, kt13, kt14⟩ := tab15 (HK0.out)
      rw [hac] at kt8
      go_wp2_with fail
      clear hW0
      clear kt0 kt1 kt2 kt3 kt4 kt5 kt6 kt7 kt8 kt9 kt10 kt11 kt12 kt13 kt14
      go_loopw [25] (fun iv wr => ∃ j : Nat, iv = .int .i64 j ∧ j ≤ m ∧ Hid (∀ z (h : z < ws.length), z < j → hasT y (keyW ws[z]) = true) ∧ Hid (Below W0.heap.size W0 wr)) (fun iv _ => m - (intOf iv).toNat)
      case atStart => exact ⟨0, rfl, Nat.zero_le _, Lib.hid (fun z _ h => by omega), Lib.hid (Below.refl _ _)⟩
      case round =>
        obtain ⟨j, rfl, hj, HI, HB⟩ := hrel
        have HK1 := Lib.hid (HK0.out.below HB.out)
        have kt8 := HK1.out.cell 8
        simp only [tabC, List.getElem?_cons_zero, List.getElem?_cons_succ] at kt8
        rw [hac] at kt8
        have hwlt : w.heap.size < wr.heap.size := HK1.out.lt
        obtain ⟨hbl, hrw⟩ := HROW.out wr HB.out
        by_cases hlt : j < m
        · have e0 := hrw 0 (by decide)
          have e1 := hrw 1 (by decide)
          have e2 := hrw 2 (by decide)
          have e3 := hrw 3 (by decide)
          have e4 := hrw 4 (by decide)
          have e5 := hrw 5 (by decide)
          have e6 := hrw 6 (by decide)
          have e7 := hrw 7 (by decide)
          have e8 := hrw 8 (by decide)
          simp only [thRow, List.getElem?_cons_zero, List.getElem?_cons_succ, Nat.add_zero] at e0 e1 e2 e3 e4 e5 e6 e7 e8
          have hjl : j < ws.length := by rw [HWM.out]; exact hlt
          obtain ⟨b2, o2, rfl, hb2, hcs⟩ := (HWD.out wr HB.out).2 (by omega)
          have hci := hcs j hjl
          obtain ⟨s, hs⟩ : ∃ s, ws[j] = s := ⟨_, rfl⟩
          rw [hs] at hci
          have HSX := Lib.hid hs
          have HKY := Lib.hid (fun w' => HKYS.out s w' (HWL.out s (by rw [← hs]; exact List.getElem_mem hjl)))
          have HHA := Lib.hid (HHAS.out (keyW s))
          obtain ⟨hb, hhb⟩ : ∃ hb, hasT y (keyW s) = hb := ⟨_, rfl⟩
          rw [hhb] at HHA
          have HHB := Lib.hid hhb
          have HAM := Lib.hid (HAMS.out (keyW s))
          generalize keyW s = ksx at HKY HHA HAM
          clear hcs hs hhb hrw
          cases hb with
          | true =>
            go_wp2_with fail
            refine region_text (fun w' => Below wr.heap.size wr w') (by kernel_rfl) (by kernel_rfl) ((Below.refl _ _).drew) (fun KK hKK => ?_)
            intro OPS
            try simp only [List.append]
            repeat (first
              | (refine' inText_val ?_ ?_ ?_ ?_
                 rotate_left 2
                 · rfl
                 · (intro w' hS; obtain ⟨hcc, hff⟩ := bcell hS; go_simp; first | with_reducible rfl | skip)
                 · (simp only [Act.put, List.setIfInBounds_toArray, List.set_cons_zero, List.set_cons_succ]; with_reducible rfl))
              | (refine' inText_call ?_ ?_ ?_ ?_ ?_
                 rotate_left 4
                 · rfl
                 · (intro w' hS; obtain ⟨hcc, hff⟩ := bcell hS; go_simp; exact ⟨rfl, rfl⟩)
                 · (intro w' hS
                    first
                      | ((with_reducible refine (HKY.out w').mono ?_); exact fun e w'' h => ⟨h.1, bl_then hS h.2⟩)
                      | ((with_reducible refine (HHA.out w' (bl_then HB.out hS)).mono ?_); exact fun e w'' h => ⟨h.1, bl_then hS h.2⟩)
                      | ((with_reducible refine (HAM.out w' (bl_then HB.out hS)).mono ?_); exact fun e w'' h => ⟨h.1, by rw [← h.2]; exact hS⟩))
                 · (simp only [Act.put, List.setIfInBounds_toArray, List.set_cons_zero, List.set_cons_succ]; with_reducible rfl)))
            refine inText_nil (hKK.out _ (fun w5 hS => ?_))
            have HB9 := Lib.hid (bl_then HB.out hS)
            clear hS hKK OPS
            have HI2 : Hid (∀ z (h : z < ws.length), z < j + 1 → hasT y (keyW ws[z]) = true) := Lib.hid (fun z hz hzj => by
              by_cases e : z = j
              · subst e; rw [HSX.out]; exact HHB.out
              · exact HI.out z hz (by omega))
            go_wp2_with fail
            go_roundw
            case rel => exact ⟨j + 1, by go_num, by omega, HI2, HB9⟩
            case measure => simp [intOf]; omega
          | false =>
            go_wp2_with fail
            refine region_text (fun w' => Below wr.heap.size wr w') (by kernel_rfl) (by kernel_rfl) ((Below.refl _ _).drew) (fun KK hKK => ?_)
            intro OPS
            try simp only [List.append]
            repeat (first
              | (refine' inText_val ?_ ?_ ?_ ?_
                 rotate_left 2
                 · rfl
                 · (intro w' hS; obtain ⟨hcc, hff⟩ := bcell hS; go_simp; first | with_reducible rfl | skip)
                 · (simp only [Act.put, List.setIfInBounds_toArray, List.set_cons_zero, List.set_cons_succ]; with_reducible rfl))
              | (refine' inText_call ?_ ?_ ?_ ?_ ?_
                 rotate_left 4
                 · rfl
                 · (intro w' hS; obtain ⟨hcc, hff⟩ := bcell hS; go_simp; exact ⟨rfl, rfl⟩)
                 · (intro w' hS
                    first
                      | ((with_reducible refine (HKY.out w').mono ?_); exact fun e w'' h => ⟨h.1, bl_then hS h.2⟩)
                      | ((with_reducible refine (HHA.out w' (bl_then HB.out hS)).mono ?_); exact fun e w'' h => ⟨h.1, bl_then hS h.2⟩)
                      | ((with_reducible refine (HAM.out w' (bl_then HB.out hS)).mono ?_); exact fun e w'' h => ⟨h.1, by rw [← h.2]; exact hS⟩))
                 · (simp only [Act.put, List.setIfInBounds_toArray, List.set_cons_zero, List.set_cons_succ]; with_reducible rfl)))
            refine inText_nil (hKK.out _ (fun w5 hS => ?_))
            have HB9 := Lib.hid (bl_then HB.out hS)
            clear hS hKK OPS
            have HRF : Hid (ra = false) := Lib.hid (by
              rw [← HRA.out, List.all_eq_false]
              exact ⟨keyW s, List.mem_map.2 ⟨s, by rw [← HSX.out]; exact List.getElem_mem hjl, rfl⟩, by rw [HHB.out]; simp⟩)
            go_wp2_with fail
            go_ret
            exact ⟨by rw [HRF.out]; rfl, bl_then HB0.out HB9.out⟩
        · have e6 := hrw 6 (by decide)
          simp only [thRow, List.getElem?_cons_zero, List.getElem?_cons_succ] at e6
          have hjl : m - 1 < ws.length := by rw [HWM.out]; omega
          obtain ⟨b2, o2, rfl, hb2, hcs⟩ := (HWD.out wr HB.out).2 (by omega)
          have hci := hcs (m - 1) hjl
          have HRT : Hid (ra = true) := Lib.hid (by
            rw [← HRA.out, List.all_eq_true]
            intro z hz
            obtain ⟨s, hs, rfl⟩ := List.mem_map.1 hz
            obtain ⟨q, hq, rfl⟩ := List.getElem_of_mem hs
            exact HI.out q hq (by rw [HWM.out] at hq; omega))
          have HKM := Lib.hid (HKL.out hjl)
          have hkm := HKL.out hjl
          obtain ⟨s, hs⟩ : ∃ s, ws[m - 1] = s := ⟨_, rfl⟩
          rw [hs] at hci hkm
          have HKY := Lib.hid (fun w' => HKYS.out s w' (HWL.out s (by rw [← hs]; exact List.getElem_mem hjl)))
          rw [hkm] at HKY
          have HAM := Lib.hid (HAMS.out kl)
          rw [HRC.out] at HAM
          have HHA := Lib.hid (HHAS.out kl)
          clear hcs hs hrw hkm
          have hsub : wrap64 ((m : Int) - 1) = ((m - 1 : Nat) : Int) := by rw [IntWalk.wrap64_in _ (by omega)]; omega
          have hsub2 : IntKind.i64.wrap ((m : Int) - 1) = ((m - 1 : Nat) : Int) := by rw [IntWalk.i64_in _ (by omega)]; omega
          have hm1' : ((m - 1 : Nat) : Int) < (m : Int) := by omega
          have hm0' : (0 : Int) ≤ ((m - 1 : Nat) : Int) := by omega
          go_wp2_with fail
          refine region_text (fun w' => Below wr.heap.size wr w') (by kernel_rfl) (by kernel_rfl) ((Below.refl _ _).drew) (fun KK hKK => ?_)
          intro OPS
          try simp only [List.append]
          repeat (first
            | (refine' inText_val ?_ ?_ ?_ ?_
               rotate_left 2
               · rfl
               · (intro w' hS; obtain ⟨hcc, hff⟩ := bcell hS; go_simp; first | with_reducible rfl | skip)
               · (simp only [Act.put, List.setIfInBounds_toArray, List.set_cons_zero, List.set_cons_succ]; with_reducible rfl))
            | (refine' inText_call ?_ ?_ ?_ ?_ ?_
               rotate_left 4
               · rfl
               · (intro w' hS; obtain ⟨hcc, hff⟩ := bcell hS; go_simp; exact ⟨rfl, rfl⟩)
               · (intro w' hS
                  first
                    | ((with_reducible refine (HKY.out w').mono ?_); exact fun e w'' h => ⟨h.1, bl_then hS h.2⟩)
                    | ((with_reducible refine (HHA.out w' (bl_then HB.out hS)).mono ?_); exact fun e w'' h => ⟨h.1, bl_then hS h.2⟩)
                    | ((with_reducible refine (HAM.out w' (bl_then HB.out hS)).mono ?_); exact fun e w'' h => ⟨h.1, by rw [← h.2]; exact hS⟩))
               · (simp only [Act.put, List.setIfInBounds_toArray, List.set_cons_zero, List.set_cons_succ]; with_reducible rfl)))
          refine inText_nil (hKK.out _ (fun w5 hS => ?_))
          have HB9 := Lib.hid (bl_then HB.out hS)
          clear hS hKK OPS
          go_wp2_with fail
          go_ret
          exact ⟨by rw [HRT.out]; rfl, bl_then HB0.out HB9.out⟩
  · rw [isN_no h01]
    by_cases h0 : 1 ≤ i
    · have h1 : (t.th.length : Int) ≤ i := by omega
      clear ht hw h01
      unfold maxLen at hc
      go_enter Tryz.func64, Tryz.ntmps64
      obtain ⟨kt0, kt1, kt2, kt3, kt4, kt5, kt6, kt7, kt8, kt9, kt10, kt11, kt12, kt13, kt14⟩ := tab15 (HK0.out)
      go_wp2
      go_ret
      exact ⟨rfl, HB0.out⟩
    · clear ht hw h01
      unfold maxLen at hc
      go_enter Tryz.func64, Tryz.ntmps64
      obtain ⟨kt0, kt1, kt2, kt3, kt4, kt5, kt6, kt7, kt8, kt9, kt10, kt11, kt12, kt13, kt14⟩ := tab15 (HK0.out)
      go_wp2
      go_ret
      exact ⟨rfl, HB0.out⟩
end Go.Proofs.YtjggklfegcejhaaGreat
