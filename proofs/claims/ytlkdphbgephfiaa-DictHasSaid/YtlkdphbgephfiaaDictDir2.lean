/- Contract of clewref35.Dir. -/
import Derived.Test.YtlkdphbgephfiaaDictDir
namespace Go.Proofs.Ytlkdphbgephfiaa
open Go.RowKit Go.PlainAid
set_option linter.unusedVariables false
set_option linter.unusedSimpArgs false

theorem dir_names : ∀ p, p < 12 → ∃ x : TxC, dirsW[p]? = some x ∧ (dirsW.map strC)[p]? = some (.string ⟨x.toArray⟩) := by
  intro p hp
  have h : p < dirsW.length := hp
  exact ⟨dirsW[p], by simp [h], by simp [h, strC]⟩
theorem dir_shorts : ∀ p, p < 10 → ∃ x : TxC, shortW[p]? = some x ∧ (shortW.map strC)[p]? = some (.string ⟨x.toArray⟩) := by
  intro p hp
  have h : p < shortW.length := hp
  exact ⟨shortW[p], by simp [h], by simp [h, strC]⟩
set_option maxRecDepth 100000 in
set_option maxHeartbeats 8000000 in
theorem refDir35 (s : ByteArray) (w : World) (hs : s.size ≤ maxLen) : Calls Try.prog 18 #[.string s] w fun e w' => e = .returned (.int .i64 (dirK (keyW s.data.toList))) ∧ Below w.heap.size w w' := by
  have HK := Lib.hid (fun w => refKey35 s w hs)
  unfold keyS mkS at HK
  generalize keyW s.data.toList = K at HK
  go_enter Try.func18, Try.ntmps18
  go_wp2_with fail
  refine ((refNames _).mono fun e w' h => LitPost.of h).mono ?_
  rintro e w1 ⟨rfl, hd1, hb1⟩
  have HD1 := Lib.hid hd1
  have HB1 := Lib.hid hb1
  clear hd1 hb1
  go_wp2_with fail
  refine ((refShorts _).mono fun e w' h => LitPost.of h).mono ?_
  rintro e W0 ⟨rfl, hs0, hb0⟩
  have HB0 := Lib.hid (bl_then HB1.out hb0)
  have HD0 := Lib.hid (HD1.out.below hb0)
  have HS0 := Lib.hid hs0
  clear hs0 hb0
  go_wp2_with fail
  go_loopw [5] (fun i wr => ∃ (p : Nat), i = .int .i64 p ∧ p ≤ 12 ∧ Hid (Below W0.heap.size W0 wr) ∧ Hid (∀ j, j < p → dirHit K j = false)) (fun i _ => 12 - (intOf i).toNat)
  case atStart => exact ⟨0, rfl, Nat.zero_le _, Lib.hid (Below.refl _ _), Lib.hid (fun j h => by omega)⟩
  case round =>
    obtain ⟨p, rfl, hpl, hB, HI⟩ := hrel
    by_cases hlt : p < 12
    · have HDr := Lib.hid (HD0.out.below hB.out)
      have HSr := Lib.hid (HS0.out.below hB.out)
      obtain ⟨d, hd1, hd2⟩ := dir_names p hlt
      have e0 := (HDr.out.cell p).trans hd2
      have hl0 := HDr.out.lt
      have hl1 := HSr.out.lt
      have hk0 : (0 : Int) ≤ (p : Int) := by omega
      have hk1 : (p : Int) < 12 := by omega
      have hq := beq_mk K d
      by_cases h10 : p < 10
      · obtain ⟨d2, hs1, hs2⟩ := dir_shorts p h10
        have f0 := (HSr.out.cell p).trans hs2
        have hq2 := beq_mk K d2
        have hh : dirHit K p = (decide (K = d) || decide (K = d2)) := by
          unfold dirHit
          rw [hd1, hs1]
          simp [eq_comm]
        have hk2 : (p : Int) < 10 := by omega
        have HHit : Hid ((decide (K = d) || decide (K = d2)) = true → dirK K = (p : Int) + 1) := Lib.hid (fun h => dirK_at (by rw [hh]; exact h) HI.out)
        have HMiss : Hid ((decide (K = d) || decide (K = d2)) = false → ∀ j, j < p + 1 → dirHit K j = false) := Lib.hid (fun h j hj => by
          by_cases e : j = p
          · subst e; rw [hh]; exact h
          · exact HI.out j (by omega))
        generalize decide (K = d) = b1 at hq HHit HMiss
        generalize decide (K = d2) = b2 at hq2 HHit HMiss
        clear hh hd1 hd2 hs1 hs2
        cases b1 with
        | true => cases b2 with
          | true =>
            go_wp2_with fail
            refine region_text (fun w' => Below wr.heap.size wr w') (by kernel_rfl) (by kernel_rfl) ((Below.refl _ _).drew) (fun KK hKK => ?_)
            intro OPS
            try simp only [List.append]
            repeat (first
              | (refine' inText_val ?_ ?_ ?_ ?_
                 rotate_left 2
                 · rfl
                 · (intro w' hS; obtain ⟨hcc, hff⟩ := bcell hS; go_simp; try with_reducible rfl)
                 · (simp only [Act.put, List.setIfInBounds_toArray, List.set_cons_zero, List.set_cons_succ]; with_reducible rfl))
              | (refine' inText_skip ?_ ?_ ?_
                 rotate_left 1
                 · rfl
                 · (simp only [Act.put, List.setIfInBounds_toArray, List.set_cons_zero, List.set_cons_succ]; with_reducible rfl))
              | (refine' inText_call ?_ ?_ ?_ ?_ ?_
                 rotate_left 4
                 · rfl
                 · (intro w' hS; obtain ⟨hcc, hff⟩ := bcell hS; go_simp; exact ⟨rfl, rfl⟩)
                 · (intro w' hS
                    first
                      | (go_at_call 38; exact (HK.out w').mono fun e w'' h => ⟨h.1, bl_then hS h.2⟩))
                 · (simp only [Act.put, List.setIfInBounds_toArray, List.set_cons_zero, List.set_cons_succ]; with_reducible rfl)))
            refine inText_nil (hKK.out _ (fun w' hS => ?_))
            have HB9 := Lib.hid (bl_then hB.out hS)
            clear hS hKK
            go_wp2
            go_ret
            exact ⟨ret_i (HHit.out (by simp)).symm, bl_then HB0.out HB9.out⟩
          | false =>
            go_wp2_with fail
            refine region_text (fun w' => Below wr.heap.size wr w') (by kernel_rfl) (by kernel_rfl) ((Below.refl _ _).drew) (fun KK hKK => ?_)
            intro OPS
            try simp only [List.append]
            repeat (first
              | (refine' inText_val ?_ ?_ ?_ ?_
                 rotate_left 2
                 · rfl
                 · (intro w' hS; obtain ⟨hcc, hff⟩ := bcell hS; go_simp; try with_reducible rfl)
                 · (simp only [Act.put, List.setIfInBounds_toArray, List.set_cons_zero, List.set_cons_succ]; with_reducible rfl))
              | (refine' inText_skip ?_ ?_ ?_
                 rotate_left 1
                 · rfl
                 · (simp only [Act.put, List.setIfInBounds_toArray, List.set_cons_zero, List.set_cons_succ]; with_reducible rfl))
              | (refine' inText_call ?_ ?_ ?_ ?_ ?_
                 rotate_left 4
                 · rfl
                 · (intro w' hS; obtain ⟨hcc, hff⟩ := bcell hS; go_simp; exact ⟨rfl, rfl⟩)
                 · (intro w' hS
                    first
                      | (go_at_call 38; exact (HK.out w').mono fun e w'' h => ⟨h.1, bl_then hS h.2⟩))
                 · (simp only [Act.put, List.setIfInBounds_toArray, List.set_cons_zero, List.set_cons_succ]; with_reducible rfl)))
            refine inText_nil (hKK.out _ (fun w' hS => ?_))
            have HB9 := Lib.hid (bl_then hB.out hS)
            clear hS hKK
            go_wp2
            go_ret
            exact ⟨ret_i (HHit.out (by simp)).symm, bl_then HB0.out HB9.out⟩
        | false => cases b2 with
          | true =>
            go_wp2_with fail
            refine region_text (fun w' => Below wr.heap.size wr w') (by kernel_rfl) (by kernel_rfl) ((Below.refl _ _).drew) (fun KK hKK => ?_)
            intro OPS
            try simp only [List.append]
            repeat (first
              | (refine' inText_val ?_ ?_ ?_ ?_
                 rotate_left 2
                 · rfl
                 · (intro w' hS; obtain ⟨hcc, hff⟩ := bcell hS; go_simp; try with_reducible rfl)
                 · (simp only [Act.put, List.setIfInBounds_toArray, List.set_cons_zero, List.set_cons_succ]; with_reducible rfl))
              | (refine' inText_skip ?_ ?_ ?_
                 rotate_left 1
                 · rfl
                 · (simp only [Act.put, List.setIfInBounds_toArray, List.set_cons_zero, List.set_cons_succ]; with_reducible rfl))
              | (refine' inText_call ?_ ?_ ?_ ?_ ?_
                 rotate_left 4
                 · rfl
                 · (intro w' hS; obtain ⟨hcc, hff⟩ := bcell hS; go_simp; exact ⟨rfl, rfl⟩)
                 · (intro w' hS
                    first
                      | (go_at_call 38; exact (HK.out w').mono fun e w'' h => ⟨h.1, bl_then hS h.2⟩))
                 · (simp only [Act.put, List.setIfInBounds_toArray, List.set_cons_zero, List.set_cons_succ]; with_reducible rfl)))
            refine inText_nil (hKK.out _ (fun w' hS => ?_))
            have HB9 := Lib.hid (bl_then hB.out hS)
            clear hS hKK
            go_wp2
            go_ret
            exact ⟨ret_i (HHit.out (by simp)).symm, bl_then HB0.out HB9.out⟩
          | false =>
            go_wp2_with fail
            refine region_text (fun w' => Below wr.heap.size wr w') (by kernel_rfl) (by kernel_rfl) ((Below.refl _ _).drew) (fun KK hKK => ?_)
            intro OPS
            try simp only [List.append]
            repeat (first
              | (refine' inText_val ?_ ?_ ?_ ?_
                 rotate_left 2
                 · rfl
                 · (intro w' hS; obtain ⟨hcc, hff⟩ := bcell hS; go_simp; try with_reducible rfl)
                 · (simp only [Act.put, List.setIfInBounds_toArray, List.set_cons_zero, List.set_cons_succ]; with_reducible rfl))
              | (refine' inText_skip ?_ ?_ ?_
                 rotate_left 1
                 · rfl
                 · (simp only [Act.put, List.setIfInBounds_toArray, List.set_cons_zero, List.set_cons_succ]; with_reducible rfl))
              | (refine' inText_call ?_ ?_ ?_ ?_ ?_
                 rotate_left 4
                 · rfl
                 · (intro w' hS; obtain ⟨hcc, hff⟩ := bcell hS; go_simp; exact ⟨rfl, rfl⟩)
                 · (intro w' hS
                    first
                      | (go_at_call 38; exact (HK.out w').mono fun e w'' h => ⟨h.1, bl_then hS h.2⟩))
                 · (simp only [Act.put, List.setIfInBounds_toArray, List.set_cons_zero, List.set_cons_succ]; with_reducible rfl)))
            refine inText_nil (hKK.out _ (fun w' hS => ?_))
            have HB9 := Lib.hid (bl_then hB.out hS)
            clear hS hKK
            go_wp2
            go_roundw
            case rel => exact ⟨p + 1, by go_num, by omega, HB9, Lib.hid (HMiss.out (by simp))⟩
            case measure => simp [intOf]; omega
      · have hh : dirHit K p = decide (K = d) := by
          unfold dirHit
          have hs1 : shortW[p]? = none := List.getElem?_eq_none (by show 10 ≤ p; omega)
          rw [hd1, hs1]
          simp [eq_comm]
        have hk2 : decide ((p : Int) < 10) = false := decide_eq_false (by omega)
        have HHit : Hid (decide (K = d) = true → dirK K = (p : Int) + 1) := Lib.hid (fun h => dirK_at (by rw [hh]; exact h) HI.out)
        have HMiss : Hid (decide (K = d) = false → ∀ j, j < p + 1 → dirHit K j = false) := Lib.hid (fun h j hj => by
          by_cases e : j = p
          · subst e; rw [hh]; exact h
          · exact HI.out j (by omega))
        generalize decide (K = d) = b1 at hq HHit HMiss
        clear hh hd1 hd2
        cases b1 with
        | true =>
          go_wp2_with fail
          refine region_text (fun w' => Below wr.heap.size wr w') (by kernel_rfl) (by kernel_rfl) ((Below.refl _ _).drew) (fun KK hKK => ?_)
          intro OPS
          try simp only [List.append]
          repeat (first
            | (refine' inText_val ?_ ?_ ?_ ?_
               rotate_left 2
               · rfl
               · (intro w' hS; obtain ⟨hcc, hff⟩ := bcell hS; go_simp; try with_reducible rfl)
               · (simp only [Act.put, List.setIfInBounds_toArray, List.set_cons_zero, List.set_cons_succ]; with_reducible rfl))
            | (refine' inText_skip ?_ ?_ ?_
               rotate_left 1
               · rfl
               · (simp only [Act.put, List.setIfInBounds_toArray, List.set_cons_zero, List.set_cons_succ]; with_reducible rfl))
            | (refine' inText_call ?_ ?_ ?_ ?_ ?_
               rotate_left 4
               · rfl
               · (intro w' hS; obtain ⟨hcc, hff⟩ := bcell hS; go_simp; exact ⟨rfl, rfl⟩)
               · (intro w' hS
                  first
                    | (go_at_call 38; exact (HK.out w').mono fun e w'' h => ⟨h.1, bl_then hS h.2⟩))
               · (simp only [Act.put, List.setIfInBounds_toArray, List.set_cons_zero, List.set_cons_succ]; with_reducible rfl)))
          refine inText_nil (hKK.out _ (fun w' hS => ?_))
          have HB9 := Lib.hid (bl_then hB.out hS)
          clear hS hKK
          go_wp2
          go_ret
          exact ⟨ret_i (HHit.out (by simp)).symm, bl_then HB0.out HB9.out⟩
        | false =>
          go_wp2_with fail
          refine region_text (fun w' => Below wr.heap.size wr w') (by kernel_rfl) (by kernel_rfl) ((Below.refl _ _).drew) (fun KK hKK => ?_)
          intro OPS
          try simp only [List.append]
          repeat (first
            | (refine' inText_val ?_ ?_ ?_ ?_
               rotate_left 2
               · rfl
               · (intro w' hS; obtain ⟨hcc, hff⟩ := bcell hS; go_simp; try with_reducible rfl)
               · (simp only [Act.put, List.setIfInBounds_toArray, List.set_cons_zero, List.set_cons_succ]; with_reducible rfl))
            | (refine' inText_skip ?_ ?_ ?_
               rotate_left 1
               · rfl
               · (simp only [Act.put, List.setIfInBounds_toArray, List.set_cons_zero, List.set_cons_succ]; with_reducible rfl))
            | (refine' inText_call ?_ ?_ ?_ ?_ ?_
               rotate_left 4
               · rfl
               · (intro w' hS; obtain ⟨hcc, hff⟩ := bcell hS; go_simp; exact ⟨rfl, rfl⟩)
               · (intro w' hS
                  first
                    | (go_at_call 38; exact (HK.out w').mono fun e w'' h => ⟨h.1, bl_then hS h.2⟩))
               · (simp only [Act.put, List.setIfInBounds_toArray, List.set_cons_zero, List.set_cons_succ]; with_reducible rfl)))
          refine inText_nil (hKK.out _ (fun w' hS => ?_))
          have HB9 := Lib.hid (bl_then hB.out hS)
          clear hS hKK
          go_wp2
          go_roundw
          case rel => exact ⟨p + 1, by go_num, by omega, HB9, Lib.hid (HMiss.out (by simp))⟩
          case measure => simp [intOf]; omega
    · have HE := Lib.hid (dirK_no (fun j hj => HI.out j (by omega)))
      go_wp2
      go_ret
      exact ⟨ret_i HE.out.symm, bl_then HB0.out hB.out⟩
end Go.Proofs.Ytlkdphbgephfiaa
