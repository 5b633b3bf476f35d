/- Contract of noun.one's known. -/
import Derived.Test.YtjggklfegcejhaaGreatNounIs
import Derived.Test.YtjggklfegcejhaaGreatRef23
namespace Go.Proofs.YtjggklfegcejhaaGreat
open Go.RowKit Go.PlainAid
set_option linter.unusedVariables false
set_option linter.unusedSimpArgs false

theorem hasX_at {t : TbC} {k : Nat} (hk : k < t.th.length) (s : TxC) : hasX t (k : Int) s = hasT t.th[k] s := by
  unfold hasX
  rw [Int.toNat_natCast, List.getElem?_eq_getElem hk]
set_option maxRecDepth 100000 in
set_option maxHeartbeats 4000000 in
theorem knownC (x : TAd) (t : TbC) (B1 B2 : Nat) (a : Option Addr) (L : List Int) (c : Nat) (s : TxC) (w : World) (hb1 : BK w B1 [.slice a L.length c] 23) (hI : Ints w (.slice a L.length c) L)
    (hb2 : BK w B2 (tabC x t) 28) (ht : TabIs w x t) (hr : ∀ y ∈ L, 1 ≤ y ∧ y < (t.th.length : Int)) (hs : s.length ≤ maxLen) :
    Calls Tryz.prog 60 #[.string ⟨s.toArray⟩, .pointer (some ⟨B1, 0, none⟩), .pointer (some ⟨B2, 0, none⟩)] w fun e w' => e = .returned (.bool (knownN t L (keyW s))) ∧ Below w.heap.size w w' := by
  have hm := reads_few ht.th
  unfold maxLen at hm
  have HIN := Lib.hid hI
  have hml : L.length ≤ maxLen := by obtain ⟨_, _, _, h, _⟩ := hI; exact h
  unfold maxLen at hml
  have hk1 := hb1.cell 0
  simp only [List.getElem?_cons_zero] at hk1
  have HK := Lib.hid hb2
  obtain ⟨m, hwm⟩ : ∃ m, L.length = m := ⟨_, rfl⟩
  have HWM := Lib.hid hwm
  rw [hwm] at hk1 hml HIN
  have HTB := Lib.hid ht
  have HR := Lib.hid hr
  have HKY := Lib.hid (fun w' => nounKey s w' hs)
  have HHAS := Lib.hid (fun (y : ThC) p wd ad wy w' (h : ThIs w' p wd ad wy y) => nounHas y p wd ad wy (keyW s) w' h)
  obtain ⟨r, hrr⟩ : ∃ r, knownN t L (keyW s) = r := ⟨_, rfl⟩
  have HRR := Lib.hid hrr
  rw [hrr]
  have hz1 : B1 < w.heap.size := hb1.lt
  have hz2 : B2 < w.heap.size := hb2.lt
  clear hb1 hI hb2 ht hr hs hwm hrr
  generalize hks : keyW s = ks at *
  clear hks
  go_enter Tryz.func60, Tryz.ntmps60
  go_wp2_with fail
  clear hk1
  go_loopw [9] (fun iv wr => ∃ j : Nat, iv = .int .i64 j ∧ j ≤ m ∧ Hid (∀ z (h : z < L.length), z < j → hasX t L[z] ks = false) ∧ Hid (Below w.heap.size w wr)) (fun iv _ => m - (intOf iv).toNat)
  case atStart => exact ⟨0, rfl, Nat.zero_le _, Lib.hid (fun z _ h => by omega), Lib.hid (Below.refl _ _)⟩
  case round =>
    obtain ⟨j, rfl, hj, HI, HB⟩ := hrel
    have HK1 := Lib.hid (HK.out.below HB.out)
    have kt8 := HK1.out.cell 8
    simp only [tabC, List.getElem?_cons_zero, List.getElem?_cons_succ] at kt8
    by_cases hlt : j < m
    · have hjl : j < L.length := by rw [HWM.out]; exact hlt
      have hin := HIN.out.below HB.out
      rw [← HWM.out] at hin
      obtain ⟨bi, oi, hai, hbi, hcs⟩ := hin.at2 (by omega)
      subst hai
      have hci := hcs j hjl
      have HMEM := Lib.hid (List.getElem_mem hjl)
      obtain ⟨y0, hy0⟩ : ∃ y0, L[j] = y0 := ⟨_, rfl⟩
      rw [hy0] at hci HMEM
      have HY0 := Lib.hid hy0
      obtain ⟨hy1, hy2⟩ := HR.out y0 HMEM.out
      obtain ⟨k, rfl⟩ : ∃ k : Nat, y0 = k := ⟨y0.toNat, by omega⟩
      have hk : k < t.th.length := by omega
      have htb := HTB.out.below HB.out
      obtain ⟨b, off, cap, hv, hcap, hblt, hcell⟩ := th_open htb.th (by omega)
      have hac : x.a8 = some ⟨b, off, none⟩ := by simp at hv; exact hv.1
      obtain ⟨r1, r2, r3, r4, hth, hrw⟩ := hcell k hk
      have e0 := hrw 0 (by decide)
      have e1 := hrw 1 (by decide)
      have e2 := hrw 2 (by decide)
      have e3 := hrw 3 (by decide)
      have e4 := hrw 4 (by decide)
      have e5 := hrw 5 (by decide)
      have e6 := hrw 6 (by decide)
      have e7 := hrw 7 (by decide)
      have e8 := hrw 8 (by decide)
      simp only [thRow, List.getElem?_cons_zero, List.getElem?_cons_succ, Nat.add_zero] at e0 e1 e2 e3 e4 e5 e6 e7 e8
      have HX : Hid (hasX t (k : Int) ks = hasT t.th[k] ks) := Lib.hid (hasX_at hk ks)
      generalize t.th[k] = y at *
      have HHA := Lib.hid (fun w' (hb : Below wr.heap.size wr w') => HHAS.out y r1 r2 r3 r4 w' (hth.below hb))
      obtain ⟨hb, hhb⟩ : ∃ hb, hasT y ks = hb := ⟨_, rfl⟩
      rw [hhb] at HHA HX
      unfold thV thRow at HHA
      have HAM := HHA
      have hk0 : (0 : Int) ≤ (k : Int) := by omega
      have hk1 : (k : Int) < (t.th.length : Int) := by omega
      rw [hac] at kt8
      have hzb2 : B2 < wr.heap.size := HK1.out.lt
      have HB0 := HB
      clear hcs hy0 hhb hrw hcell hv htb hth hin
      have HBr := Lib.hid (Below.refl wr.heap.size wr)
      cases hb with
      | true =>
        go_wp2_with fail
        refine region_text (fun w' => Below wr.heap.size wr w') (by kernel_rfl) (by kernel_rfl) ((Below.refl _ _).drew) (fun KK hKK => ?_)
        intro OPS
        try simp only [List.append]
        repeat (first
          | (refine' inText_val ?_ ?_ ?_ ?_
             rotate_left 2
             · rfl
             · (intro w' hS; obtain ⟨hcc, hff⟩ := bcell hS; go_simp; first | with_reducible rfl | skip)
             · (simp only [Act.put, List.setIfInBounds_toArray, List.set_cons_zero, List.set_cons_succ]; with_reducible rfl))
          | (refine' inText_call ?_ ?_ ?_ ?_ ?_
             rotate_left 4
             · rfl
             · (intro w' hS; obtain ⟨hcc, hff⟩ := bcell hS; go_simp; exact ⟨rfl, rfl⟩)
             · (intro w' hS
                first
                  | ((with_reducible refine (HKY.out w').mono ?_); exact fun e w'' h => ⟨h.1, bl_then hS h.2⟩)
                  | ((with_reducible refine (HHA.out w' hS).mono ?_); exact fun e w'' h => ⟨h.1, bl_then hS h.2⟩))
             · (simp only [Act.put, List.setIfInBounds_toArray, List.set_cons_zero, List.set_cons_succ]; with_reducible rfl)))
        refine inText_nil (hKK.out _ (fun w5 hS => ?_))
        have HB9 := Lib.hid (bl_then HB.out hS)
        clear hS hKK OPS
        have HRT : Hid (r = true) := Lib.hid (by
          rw [← HRR.out]; unfold knownN; rw [List.any_eq_true]
          exact ⟨_, HMEM.out, HX.out⟩)
        go_wp2_with fail
        go_ret
        exact ⟨by rw [HRT.out]; rfl, HB9.out⟩
      | false =>
        go_wp2_with fail
        refine region_text (fun w' => Below wr.heap.size wr w') (by kernel_rfl) (by kernel_rfl) ((Below.refl _ _).drew) (fun KK hKK => ?_)
        intro OPS
        try simp only [List.append]
        repeat (first
          | (refine' inText_val ?_ ?_ ?_ ?_
             rotate_left 2
             · rfl
             · (intro w' hS; obtain ⟨hcc, hff⟩ := bcell hS; go_simp; first | with_reducible rfl | skip)
             · (simp only [Act.put, List.setIfInBounds_toArray, List.set_cons_zero, List.set_cons_succ]; with_reducible rfl))
          | (refine' inText_call ?_ ?_ ?_ ?_ ?_
             rotate_left 4
             · rfl
             · (intro w' hS; obtain ⟨hcc, hff⟩ := bcell hS; go_simp; exact ⟨rfl, rfl⟩)
             · (intro w' hS
                first
                  | ((with_reducible refine (HKY.out w').mono ?_); exact fun e w'' h => ⟨h.1, bl_then hS h.2⟩)
                  | ((with_reducible refine (HHA.out w' hS).mono ?_); exact fun e w'' h => ⟨h.1, bl_then hS h.2⟩))
             · (simp only [Act.put, List.setIfInBounds_toArray, List.set_cons_zero, List.set_cons_succ]; with_reducible rfl)))
        refine inText_nil (hKK.out _ (fun w5 hS => ?_))
        have HB9 := Lib.hid (bl_then HB.out hS)
        clear hS hKK OPS
        have HI2 : Hid (∀ z (h : z < L.length), z < j + 1 → hasX t L[z] ks = false) := Lib.hid (fun z hz hzj => by
          by_cases e : z = j
          · subst e; rw [HY0.out]; exact HX.out
          · exact HI.out z hz (by omega))
        go_wp2_with fail
        go_roundw
        case rel => exact ⟨j + 1, by go_num, by omega, HI2, HB9⟩
        case measure => simp [intOf]; omega
    · have HRF : Hid (r = false) := Lib.hid (by
        rw [← HRR.out]; unfold knownN; rw [List.any_eq_false]
        intro z hz
        obtain ⟨q, hq, rfl⟩ := List.getElem_of_mem hz
        rw [HI.out q hq (by rw [HWM.out] at hq; omega)]; simp)
      go_wp2_with fail
      go_ret
      exact ⟨by rw [HRF.out]; rfl, HB.out⟩
end Go.Proofs.YtjggklfegcejhaaGreat
