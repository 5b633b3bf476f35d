/- Contract of clewref36.Is. -/
import Derived.Test.YtjggklfegcejhaaGreatNounIs
namespace Go.Proofs.YtjggklfegcejhaaGreat
open Go.RowKit Go.PlainAid
set_option linter.unusedVariables false
set_option linter.unusedSimpArgs false

/-- The words of all things are keys. -/
def KeyOk (t : TbC) : Prop := ∀ y ∈ t.th, y.wd.map keyW = y.wd ∧ y.ad.map keyW = y.ad
set_option maxRecDepth 100000 in
set_option maxHeartbeats 4000000 in
theorem refIs36 (x : TAd) (t : TbC) (i : Int) (a : Option Addr) (ws : List TxC) (c : Nat) (w : World) (ht : TabIs w x t) (hw : Wds w a ws) (hc : ws.length ≤ maxLen) (hky : KeyOk t) :
    Calls Tryz.prog 26 #[tabV x t, .int .i64 i, .slice a ws.length c] w fun e w' => e = .returned (.bool (isN t i (ws.map keyW))) ∧ Below w.heap.size w w' := by
  have HB0 := Lib.hid (bl_tab w x t)
  have HK0 : Hid (BK (tabW w x t) w.heap.size (tabC x t) 28) := Lib.hid (BK.new w (tabC x t) 28)
  obtain ⟨W0, hW0⟩ : ∃ W0, tabW w x t = W0 := ⟨_, rfl⟩
  rw [hW0] at HB0 HK0
  unfold tabW tabC at hW0
  unfold tabV tabC
  have hm := reads_few ht.th
  unfold maxLen at hm
  by_cases h01 : 1 ≤ i ∧ i < (t.th.length : Int)
  · obtain ⟨h0, h1⟩ := h01
    obtain ⟨k, rfl⟩ : ∃ k : Nat, i = k := ⟨i.toNat, by omega⟩
    have hk : k < t.th.length := by omega
    rw [isN_at h0 hk]
    obtain ⟨m, hwm⟩ : ∃ m, ws.length = m := ⟨_, rfl⟩
    by_cases hn : m = 0
    · have hws : ws = [] := List.length_eq_zero_iff.1 (by omega)
      subst hws
      clear ht hw hc hn hwm
      rw [List.length_nil]
      go_enter Tryz.func26, Tryz.ntmps26
      obtain ⟨kt0, kt1, kt2, kt3, kt4, kt5, kt6, kt7, kt8, kt9, kt10, kt11, kt12, kt13, kt14⟩ := tab15 (HK0.out)
      go_wp2
      go_ret
      exact ⟨rfl, HB0.out⟩
    · obtain ⟨b, off, cap, hv, hcap, hblt, hcell⟩ := th_open ht.th (by omega)
      have hac : x.a8 = some ⟨b, off, none⟩ := by simp at hv; exact hv.1
      obtain ⟨r1, r2, r3, r4, hth, hrow⟩ := hcell k hk
      obtain ⟨ky1, ky2⟩ := hky _ (List.getElem_mem hk)
      generalize t.th[k] = y at *
      obtain ⟨a1, c1, rfl, _, hm1, hw1⟩ := reads_wds hth.wd
      obtain ⟨a2, c2, rfl, _, hm2, hw2⟩ := reads_wds hth.ad
      have HH1 := Lib.hid (fun s w' (hb : Below W0.heap.size W0 w') hs => refHas36 s a1 y.wd c1 w' (hw1.below (bl_then HB0.out hb)) hm1 hs)
      have HH2 := Lib.hid (fun s w' (hb : Below W0.heap.size W0 w') hs => refHas36 s a2 y.ad c2 w' (hw2.below (bl_then HB0.out hb)) hm2 hs)
      rw [ky1] at HH1
      rw [ky2] at HH2
      have HROW : Hid (∀ wr, Below W0.heap.size W0 wr → b < wr.heap.size ∧ ∀ j, j < 9 → wr.cell? ⟨b, off + k * 9 + j, none⟩ = (thRow y r1 (.slice a1 y.wd.length c1) (.slice a2 y.ad.length c2) r4)[j]?) := Lib.hid (fun wr hb => ⟨Nat.lt_of_lt_of_le hblt (bl_then HB0.out hb).size, fun j hj => ((bl_then HB0.out hb).cell (p := ⟨b, off + k * 9 + j, none⟩) hblt).trans (hrow j hj)⟩)
      have HWD := Lib.hid (fun wr (hb : Below W0.heap.size W0 wr) => hw.below (bl_then HB0.out hb))
      have HWL := Lib.hid hw.1
      have hk0 : (0 : Int) ≤ (k : Int) := by omega
      have hk1 : (k : Int) < (t.th.length : Int) := by omega
      have hm00 : ((m : Int) == 0) = false := by simp; omega
      have hne : (ws.map keyW).isEmpty = false := by cases ws with | nil => simp at hwm; omega | cons a l => rfl
      rw [hne]
      obtain ⟨ra, hra⟩ : ∃ r, (ws.map keyW).all (hasT y) = r := ⟨_, rfl⟩
      obtain ⟨kl, hkl⟩ : ∃ r, (ws.map keyW).getLastD [] = r := ⟨_, rfl⟩
      have HRA := Lib.hid hra
      have HKL : Hid (∀ h : m - 1 < ws.length, keyW ws[m - 1] = kl) := Lib.hid (fun h => by
        rw [← hkl, List.getLastD_eq_getLast?, List.getLast?_eq_getElem?, List.length_map, hwm, List.getElem?_map, List.getElem?_eq_getElem h]; rfl)
      rw [hra, hkl]
      obtain ⟨rc, hrc⟩ : ∃ r, y.wd.contains kl = r := ⟨_, rfl⟩
      rw [hrc]
      have HRC := Lib.hid hrc
      clear hrc
      have HWM := Lib.hid hwm
      rw [hwm]
      unfold maxLen at hc
      rw [hwm] at hc
      clear hcell hv ht hw hw1 hw2 hrow hth hne hra hkl hwm ky1 ky2 hky
      rw [hac]
      rw [hac] at hW0
      go_enter Tryz.func26, Tryz.ntmps26
      obtain ⟨kt0, kt1, kt2, kt3, kt4, kt5, kt6, kt7, kt8, kt9, kt10, kt11, kt12, kt13, kt14⟩ := tab15 (HK0.out)
      rw [hac] at kt8
      go_wp2_with fail
      clear hW0
      clear kt0 kt1 kt2 kt3 kt4 kt5 kt6 kt7 kt8 kt9 kt10 kt11 kt12 kt13 kt14
      go_loopw [7] (fun iv wr => ∃ j : Nat, iv = .int .i64 j ∧ j ≤ m ∧ Hid (∀ z (h : z < ws.length), z < j → hasT y (keyW ws[z]) = true) ∧ Hid (Below W0.heap.size W0 wr)) (fun iv _ => m - (intOf iv).toNat)
      case atStart => exact ⟨0, rfl, Nat.zero_le _, Lib.hid (fun z _ h => by omega), Lib.hid (Below.refl _ _)⟩
      case round =>
        obtain ⟨j, rfl, hj, HI, HB⟩ := hrel
        have HK1 := Lib.hid (HK0.out.below HB.out)
        have kt8 := HK1.out.cell 8
        simp only [tabC, List.getElem?_cons_zero, List.getElem?_cons_succ] at kt8
        rw [hac] at kt8
        have hwlt : w.heap.size < wr.heap.size := HK1.out.lt
        obtain ⟨hbl, hrw⟩ := HROW.out wr HB.out
        by_cases hlt : j < m
        · have e0 := hrw 0 (by decide)
          have e1 := hrw 1 (by decide)
          have e2 := hrw 2 (by decide)
          have e3 := hrw 3 (by decide)
          have e4 := hrw 4 (by decide)
          have e5 := hrw 5 (by decide)
          have e6 := hrw 6 (by decide)
          have e7 := hrw 7 (by decide)
          have e8 := hrw 8 (by decide)
          simp only [thRow, List.getElem?_cons_zero, List.getElem?_cons_succ, Nat.add_zero] at e0 e1 e2 e3 e4 e5 e6 e7 e8
          have hjl : j < ws.length := by rw [HWM.out]; exact hlt
          obtain ⟨b2, o2, rfl, hb2, hcs⟩ := (HWD.out wr HB.out).2 (by omega)
          have hci := hcs j hjl
          obtain ⟨s, hs⟩ : ∃ s, ws[j] = s := ⟨_, rfl⟩
          rw [hs] at hci
          have HSX := Lib.hid hs
          have H1 := Lib.hid (fun w' hb => HH1.out s w' hb (HWL.out s (by rw [← hs]; exact List.getElem_mem hjl)))
          have H2 := Lib.hid (fun w' hb => HH2.out s w' hb (HWL.out s (by rw [← hs]; exact List.getElem_mem hjl)))
          obtain ⟨b1, hb1⟩ : ∃ r, y.wd.contains (keyW s) = r := ⟨_, rfl⟩
          obtain ⟨b2', hb2'⟩ : ∃ r, y.ad.contains (keyW s) = r := ⟨_, rfl⟩
          rw [hb1] at H1
          rw [hb2'] at H2
          have HHB : Hid (hasT y (keyW s) = (b1 || b2')) := Lib.hid (by unfold hasT; rw [hb1, hb2'])
          clear hcs hs hb1 hb2' hrw
          cases b1 with
          | true =>
            go_wp2_with fail
            refine region_text (fun w' => Below wr.heap.size wr w') (by kernel_rfl) (by kernel_rfl) ((Below.refl _ _).drew) (fun KK hKK => ?_)
            intro OPS
            try simp only [List.append]
            repeat (first
              | (refine' inText_val ?_ ?_ ?_ ?_
                 rotate_left 2
                 · rfl
                 · (intro w' hS; obtain ⟨hcc, hff⟩ := bcell hS; go_simp; first | with_reducible rfl | skip)
                 · (simp only [Act.put, List.setIfInBounds_toArray, List.set_cons_zero, List.set_cons_succ]; with_reducible rfl))
              | (refine' inText_skip ?_ ?_ ?_
                 rotate_left 1
                 · rfl
                 · (simp only [Act.put, List.setIfInBounds_toArray, List.set_cons_zero, List.set_cons_succ]; with_reducible rfl))
              | (refine' inText_call ?_ ?_ ?_ ?_ ?_
                 rotate_left 4
                 · rfl
                 · (intro w' hS; obtain ⟨hcc, hff⟩ := bcell hS; go_simp; exact ⟨rfl, rfl⟩)
                 · (intro w' hS
                    first
                      | ((with_reducible refine (H1.out w' (bl_then HB.out hS)).mono ?_); exact fun e w'' h => ⟨h.1, bl_then hS h.2⟩)
                      | ((with_reducible refine (H2.out w' (bl_then HB.out hS)).mono ?_); exact fun e w'' h => ⟨h.1, bl_then hS h.2⟩))
                 · (simp only [Act.put, List.setIfInBounds_toArray, List.set_cons_zero, List.set_cons_succ]; with_reducible rfl)))
            refine inText_nil (hKK.out _ (fun w5 hS => ?_))
            have HB9 := Lib.hid (bl_then HB.out hS)
            clear hS hKK OPS
            have HI2 : Hid (∀ z (h : z < ws.length), z < j + 1 → hasT y (keyW ws[z]) = true) := Lib.hid (fun z hz hzj => by
              by_cases e : z = j
              · subst e; rw [HSX.out]; exact HHB.out
              · exact HI.out z hz (by omega))
            go_wp2_with fail
            go_roundw
            case rel => exact ⟨j + 1, by go_num, by omega, HI2, HB9⟩
            case measure => simp [intOf]; omega
          | false =>
            cases b2' with
            | true =>
              go_wp2_with fail
              refine region_text (fun w' => Below wr.heap.size wr w') (by kernel_rfl) (by kernel_rfl) ((Below.refl _ _).drew) (fun KK hKK => ?_)
              intro OPS
              try simp only [List.append]
              repeat (first
                | (refine' inText_val ?_ ?_ ?_ ?_
                   rotate_left 2
                   · rfl
                   · (intro w' hS; obtain ⟨hcc, hff⟩ := bcell hS; go_simp; first | with_reducible rfl | skip)
                   · (simp only [Act.put, List.setIfInBounds_toArray, List.set_cons_zero, List.set_cons_succ]; with_reducible rfl))
                | (refine' inText_skip ?_ ?_ ?_
                   rotate_left 1
                   · rfl
                   · (simp only [Act.put, List.setIfInBounds_toArray, List.set_cons_zero, List.set_cons_succ]; with_reducible rfl))
                | (refine' inText_call ?_ ?_ ?_ ?_ ?_
                   rotate_left 4
                   · rfl
                   · (intro w' hS; obtain ⟨hcc, hff⟩ := bcell hS; go_simp; exact ⟨rfl, rfl⟩)
                   · (intro w' hS
                      first
                        | ((with_reducible refine (H1.out w' (bl_then HB.out hS)).mono ?_); exact fun e w'' h => ⟨h.1, bl_then hS h.2⟩)
                        | ((with_reducible refine (H2.out w' (bl_then HB.out hS)).mono ?_); exact fun e w'' h => ⟨h.1, bl_then hS h.2⟩))
                   · (simp only [Act.put, List.setIfInBounds_toArray, List.set_cons_zero, List.set_cons_succ]; with_reducible rfl)))
              refine inText_nil (hKK.out _ (fun w5 hS => ?_))
              have HB9 := Lib.hid (bl_then HB.out hS)
              clear hS hKK OPS
              have HI2 : Hid (∀ z (h : z < ws.length), z < j + 1 → hasT y (keyW ws[z]) = true) := Lib.hid (fun z hz hzj => by
                by_cases e : z = j
                · subst e; rw [HSX.out]; exact HHB.out
                · exact HI.out z hz (by omega))
              go_wp2_with fail
              go_roundw
              case rel => exact ⟨j + 1, by go_num, by omega, HI2, HB9⟩
              case measure => simp [intOf]; omega
            | false =>
              go_wp2_with fail
              refine region_text (fun w' => Below wr.heap.size wr w') (by kernel_rfl) (by kernel_rfl) ((Below.refl _ _).drew) (fun KK hKK => ?_)
              intro OPS
              try simp only [List.append]
              repeat (first
                | (refine' inText_val ?_ ?_ ?_ ?_
                   rotate_left 2
                   · rfl
                   · (intro w' hS; obtain ⟨hcc, hff⟩ := bcell hS; go_simp; first | with_reducible rfl | skip)
                   · (simp only [Act.put, List.setIfInBounds_toArray, List.set_cons_zero, List.set_cons_succ]; with_reducible rfl))
                | (refine' inText_skip ?_ ?_ ?_
                   rotate_left 1
                   · rfl
                   · (simp only [Act.put, List.setIfInBounds_toArray, List.set_cons_zero, List.set_cons_succ]; with_reducible rfl))
                | (refine' inText_call ?_ ?_ ?_ ?_ ?_
                   rotate_left 4
                   · rfl
                   · (intro w' hS; obtain ⟨hcc, hff⟩ := bcell hS; go_simp; exact ⟨rfl, rfl⟩)
                   · (intro w' hS
                      first
                        | ((with_reducible refine (H1.out w' (bl_then HB.out hS)).mono ?_); exact fun e w'' h => ⟨h.1, bl_then hS h.2⟩)
                        | ((with_reducible refine (H2.out w' (bl_then HB.out hS)).mono ?_); exact fun e w'' h => ⟨h.1, bl_then hS h.2⟩))
                   · (simp only [Act.put, List.setIfInBounds_toArray, List.set_cons_zero, List.set_cons_succ]; with_reducible rfl)))
              refine inText_nil (hKK.out _ (fun w5 hS => ?_))
              have HB9 := Lib.hid (bl_then HB.out hS)
              clear hS hKK OPS
              have HRF : Hid (ra = false) := Lib.hid (by
                rw [← HRA.out, List.all_eq_false]
                exact ⟨keyW s, List.mem_map.2 ⟨s, by rw [← HSX.out]; exact List.getElem_mem hjl, rfl⟩, by rw [HHB.out]; simp⟩)
              go_wp2_with fail
              go_ret
              exact ⟨by rw [HRF.out]; rfl, bl_then HB0.out HB9.out⟩
        · have e6 := hrw 6 (by decide)
          simp only [thRow, List.getElem?_cons_zero, List.getElem?_cons_succ] at e6
          have hjl : m - 1 < ws.length := by rw [HWM.out]; omega
          obtain ⟨b2, o2, rfl, hb2, hcs⟩ := (HWD.out wr HB.out).2 (by omega)
          have hci := hcs (m - 1) hjl
          have HRT : Hid (ra = true) := Lib.hid (by
            rw [← HRA.out, List.all_eq_true]
            intro z hz
            obtain ⟨s, hs, rfl⟩ := List.mem_map.1 hz
            obtain ⟨q, hq, rfl⟩ := List.getElem_of_mem hs
            exact HI.out q hq (by rw [HWM.out] at hq; omega))
          have HKM := Lib.hid (HKL.out hjl)
          have hkm := HKL.out hjl
          obtain ⟨s, hs⟩ : ∃ s, ws[m - 1] = s := ⟨_, rfl⟩
          rw [hs] at hci hkm
          have H1 := Lib.hid (fun w' hb => HH1.out s w' hb (HWL.out s (by rw [← hs]; exact List.getElem_mem hjl)))
          have H2 := Lib.hid (fun w' hb => HH2.out s w' hb (HWL.out s (by rw [← hs]; exact List.getElem_mem hjl)))
          rw [hkm, HRC.out] at H1
          clear hcs hs hrw hkm
          have hsub : wrap64 ((m : Int) - 1) = ((m - 1 : Nat) : Int) := by rw [IntWalk.wrap64_in _ (by omega)]; omega
          have hsub2 : IntKind.i64.wrap ((m : Int) - 1) = ((m - 1 : Nat) : Int) := by rw [IntWalk.i64_in _ (by omega)]; omega
          have hm1' : ((m - 1 : Nat) : Int) < (m : Int) := by omega
          have hm0' : (0 : Int) ≤ ((m - 1 : Nat) : Int) := by omega
          go_wp2_with fail
          refine region_text (fun w' => Below wr.heap.size wr w') (by kernel_rfl) (by kernel_rfl) ((Below.refl _ _).drew) (fun KK hKK => ?_)
          intro OPS
          try simp only [List.append]
          repeat (first
            | (refine' inText_val ?_ ?_ ?_ ?_
               rotate_left 2
               · rfl
               · (intro w' hS; obtain ⟨hcc, hff⟩ := bcell hS; go_simp; first | with_reducible rfl | skip)
               · (simp only [Act.put, List.setIfInBounds_toArray, List.set_cons_zero, List.set_cons_succ]; with_reducible rfl))
            | (refine' inText_skip ?_ ?_ ?_
               rotate_left 1
               · rfl
               · (simp only [Act.put, List.setIfInBounds_toArray, List.set_cons_zero, List.set_cons_succ]; with_reducible rfl))
            | (refine' inText_call ?_ ?_ ?_ ?_ ?_
               rotate_left 4
               · rfl
               · (intro w' hS; obtain ⟨hcc, hff⟩ := bcell hS; go_simp; exact ⟨rfl, rfl⟩)
               · (intro w' hS
                  first
                    | ((with_reducible refine (H1.out w' (bl_then HB.out hS)).mono ?_); exact fun e w'' h => ⟨h.1, bl_then hS h.2⟩)
                    | ((with_reducible refine (H2.out w' (bl_then HB.out hS)).mono ?_); exact fun e w'' h => ⟨h.1, bl_then hS h.2⟩))
               · (simp only [Act.put, List.setIfInBounds_toArray, List.set_cons_zero, List.set_cons_succ]; with_reducible rfl)))
          refine inText_nil (hKK.out _ (fun w5 hS => ?_))
          have HB9 := Lib.hid (bl_then HB.out hS)
          clear hS hKK OPS
          go_wp2_with fail
          go_ret
          exact ⟨by rw [HRT.out]; rfl, bl_then HB0.out HB9.out⟩
  · rw [isN_no h01]
    by_cases h0 : 1 ≤ i
    · have h1 : (t.th.length : Int) ≤ i := by omega
      clear ht hw h01
      unfold maxLen at hc
      go_enter Tryz.func26, Tryz.ntmps26
      obtain ⟨kt0, kt1, kt2, kt3, kt4, kt5, kt6, kt7, kt8, kt9, kt10, kt11, kt12, kt13, kt14⟩ := tab15 (HK0.out)
      go_wp2
      go_ret
      exact ⟨rfl, HB0.out⟩
    · clear ht hw h01
      unfold maxLen at hc
      go_enter Tryz.func26, Tryz.ntmps26
      obtain ⟨kt0, kt1, kt2, kt3, kt4, kt5, kt6, kt7, kt8, kt9, kt10, kt11, kt12, kt13, kt14⟩ := tab15 (HK0.out)
      go_wp2
      go_ret
      exact ⟨rfl, HB0.out⟩
end Go.Proofs.YtjggklfegcejhaaGreat
