/- Contracts of clewref35.Find, Bits, Rising, Same. -/
import Derived.Test.YtlkdphbgephfiaaDictFind
import Derived.Test.YtlkdphbgephfiaaGrow
namespace Go.Proofs.Ytlkdphbgephfiaa
open Go.RowKit Go.PlainAid
set_option linter.unusedVariables false
set_option linter.unusedSimpArgs false

theorem beq_mk (a b : List UInt8) : (a == b) = decide (a = b) := by
  by_cases h : a = b <;> simp [h]
set_option maxRecDepth 100000 in
set_option maxHeartbeats 4000000 in
theorem refFind35 (v : Value) (l : List EnC) (s : ByteArray) (w : World) (hv : Reads Cd.en.seq w v l) (hs : s.size ≤ maxLen) :
    Calls Try.prog 14 #[v, .string s] w fun e w' => e = .returned (.int .i64 (findE l (keyW s.data.toList))) ∧ Below w.heap.size w w' := by
  have HV := Lib.hid hv
  have HK := Lib.hid (fun w => refKey35 s w hs)
  unfold keyS mkS at HK
  obtain ⟨a0, c0, hv0, hc0, hm0⟩ := hv.len
  subst hv0
  unfold maxLen at hm0
  clear hv
  generalize keyW s.data.toList = K at HK
  go_enter Try.func14, Try.ntmps14
  go_wp2
  go_loopw [5] (fun i wr => ∃ (p : Nat), i = .int .i64 p ∧ p ≤ l.length ∧ Hid (Below w.heap.size w wr) ∧ Hid (∀ j (hj : j < l.length), j < p → (l[j]).wd ≠ K)) (fun i _ => l.length - (intOf i).toNat)
  case atStart => exact ⟨0, rfl, Nat.zero_le _, Lib.hid (Below.refl _ _), Lib.hid (fun j hj h => by omega)⟩
  case round =>
    obtain ⟨p, rfl, hpl, hB, HI⟩ := hrel
    by_cases hlt : p < l.length
    · obtain ⟨b, off, cap, hv, hcap, hblt, hcell⟩ := en_open (HV.out.below hB.out) (by omega)
      have hac : a0 = some ⟨b, off, none⟩ := by simp at hv; exact hv.1
      subst hac
      obtain ⟨e0, e1⟩ := hcell p hlt
      have HF : Hid ((l[p]).wd = K → findE l K = p) := Lib.hid (fun h => findE_at hlt HI.out h)
      have HN : Hid ((l[p]).wd ≠ K → ∀ j (hj : j < l.length), j < p + 1 → (l[j]).wd ≠ K) := Lib.hid (fun h j hj h2 => by
        by_cases e : j = p
        · subst e; exact h
        · exact HI.out j hj (by omega))
      have hq := beq_mk (l[p]).wd K
      generalize l[p] = x at e0 e1 HF HN hq
      have hk0 : (0 : Int) ≤ (p : Int) := by omega
      have hk1 : (p : Int) < (l.length : Int) := by omega
      clear hcell hv
      obtain ⟨bq, hbq⟩ : ∃ bq, decide (x.wd = K) = bq := ⟨_, rfl⟩
      rw [hbq] at hq
      have HQ := Lib.hid hbq
      clear hbq
      cases bq with
      | true =>
        go_wp2_with fail
        refine region_text (fun w' => Below wr.heap.size wr w') (by kernel_rfl) (by kernel_rfl) ((Below.refl _ _).drew) (fun KK hKK => ?_)
        intro OPS
        try simp only [List.append]
        repeat (first
          | (refine' inText_val ?_ ?_ ?_ ?_
             rotate_left 2
             · rfl
             · (intro w' hS; obtain ⟨hcc, hff⟩ := bcell hS; go_simp; try with_reducible rfl)
             · (simp only [Act.put, List.setIfInBounds_toArray, List.set_cons_zero, List.set_cons_succ]; with_reducible rfl))
          | (refine' inText_skip ?_ ?_ ?_
             rotate_left 1
             · rfl
             · (simp only [Act.put, List.setIfInBounds_toArray, List.set_cons_zero, List.set_cons_succ]; with_reducible rfl))
          | (refine' inText_call ?_ ?_ ?_ ?_ ?_
             rotate_left 4
             · rfl
             · (intro w' hS; obtain ⟨hcc, hff⟩ := bcell hS; go_simp; exact ⟨rfl, rfl⟩)
             · (intro w' hS
                first
                  | (go_at_call 38; exact (HK.out w').mono fun e w'' h => ⟨h.1, bl_then hS h.2⟩))
             · (simp only [Act.put, List.setIfInBounds_toArray, List.set_cons_zero, List.set_cons_succ]; with_reducible rfl)))
        refine inText_nil (hKK.out _ (fun w' hS => ?_))
        have HB9 := Lib.hid (bl_then hB.out hS)
        clear hS hKK
        go_wp2
        go_ret
        exact ⟨ret_i (HF.out (by simpa using HQ.out)).symm, HB9.out⟩
      | false =>
        go_wp2_with fail
        refine region_text (fun w' => Below wr.heap.size wr w') (by kernel_rfl) (by kernel_rfl) ((Below.refl _ _).drew) (fun KK hKK => ?_)
        intro OPS
        try simp only [List.append]
        repeat (first
          | (refine' inText_val ?_ ?_ ?_ ?_
             rotate_left 2
             · rfl
             · (intro w' hS; obtain ⟨hcc, hff⟩ := bcell hS; go_simp; try with_reducible rfl)
             · (simp only [Act.put, List.setIfInBounds_toArray, List.set_cons_zero, List.set_cons_succ]; with_reducible rfl))
          | (refine' inText_skip ?_ ?_ ?_
             rotate_left 1
             · rfl
             · (simp only [Act.put, List.setIfInBounds_toArray, List.set_cons_zero, List.set_cons_succ]; with_reducible rfl))
          | (refine' inText_call ?_ ?_ ?_ ?_ ?_
             rotate_left 4
             · rfl
             · (intro w' hS; obtain ⟨hcc, hff⟩ := bcell hS; go_simp; exact ⟨rfl, rfl⟩)
             · (intro w' hS
                first
                  | (go_at_call 38; exact (HK.out w').mono fun e w'' h => ⟨h.1, bl_then hS h.2⟩))
             · (simp only [Act.put, List.setIfInBounds_toArray, List.set_cons_zero, List.set_cons_succ]; with_reducible rfl)))
        refine inText_nil (hKK.out _ (fun w' hS => ?_))
        have HB9 := Lib.hid (bl_then hB.out hS)
        clear hS hKK
        go_wp2
        go_roundw
        case rel => exact ⟨p + 1, by go_num, by omega, HB9, Lib.hid (HN.out (by simpa using HQ.out))⟩
        case measure => simp [intOf]; omega
    · have HE : Hid (findE l K = -1) := Lib.hid (findE_none fun e he => by
        obtain ⟨j, hj, rfl⟩ := List.getElem_of_mem he
        exact HI.out j hj (by omega))
      go_wp2
      go_ret
      exact ⟨ret_i HE.out.symm, hB.out⟩
set_option maxRecDepth 100000 in
set_option maxHeartbeats 4000000 in
theorem refBits35 (v : Value) (l : List EnC) (s : ByteArray) (w : World) (hv : Reads Cd.en.seq w v l) (hs : s.size ≤ maxLen) :
    Calls Try.prog 16 #[v, .string s] w fun e w' => e = .returned (.int .i64 (bitsE l (keyW s.data.toList))) ∧ Below w.heap.size w w' := by
  have HV := Lib.hid hv
  have HS := Lib.hid (fun w h => refFind35 v l s w h hs)
  obtain ⟨a0, c0, hv0, hc0, hm0⟩ := hv.len
  subst hv0
  clear hv
  rcases findE_cases l (keyW s.data.toList) with ⟨i, hi, h1, h2⟩ | ⟨h1, h2⟩
  · have HE := Lib.hid (bitsE_at hi h1)
    rw [h1] at HS
    obtain ⟨b, off, cap, hv, hcap, hblt, hcell⟩ := en_open HV.out (by omega)
    have hac : a0 = some ⟨b, off, none⟩ := by simp at hv; exact hv.1
    subst hac
    obtain ⟨f0, f1⟩ := hcell i hi
    clear h1 h2 hcell hv
    generalize l[i] = x at f0 f1 HE
    go_enter Try.func16, Try.ntmps16
    go_wp2_with (go_at_call 14; refine (HS.out _ HV.out).mono ?_; rintro e w1 ⟨rfl, hb⟩; have e0 := (hb.cell (p := ⟨b, off + i * 2, none⟩) hblt).trans f0; have e1 := (hb.cell (p := ⟨b, off + i * 2 + 1, none⟩) hblt).trans f1; have HB := Lib.hid hb; clear hb)
    go_ret
    exact ⟨ret_i HE.out.symm, HB.out⟩
  · have HE := Lib.hid (bitsE_none h2)
    rw [h1] at HS
    clear h1 h2
    go_enter Try.func16, Try.ntmps16
    go_wp2_with (go_at_call 14; refine (HS.out _ HV.out).mono ?_; rintro e w1 ⟨rfl, hb⟩; have HB := Lib.hid hb; clear hb)
    go_ret
    exact ⟨ret_i HE.out.symm, HB.out⟩
theorem rises_next {l : List EnC} (h : ∀ j (hj : j + 1 < l.length), ltS (l[j]).wd (l[j + 1]).wd = true) : RisesE l := by
  refine List.pairwise_iff_getElem.2 fun i j hi hj hij => ?_
  induction j with
  | zero => omega
  | succ j ih =>
    by_cases e : i = j
    · subst e; exact h i hj
    · exact ltS_trans (ih (by omega) (by omega)) (h j hj)
set_option maxRecDepth 100000 in
set_option maxHeartbeats 4000000 in
theorem refRising (v : Value) (l : List EnC) (w : World) (hv : Reads Cd.en.seq w v l) :
    Calls Try.prog 12 #[v] w (OneW (RisesE l) w) := by
  have HV := Lib.hid hv
  obtain ⟨a0, c0, hv0, hc0, hm0⟩ := hv.len
  subst hv0
  unfold maxLen at hm0
  clear hv
  go_enter Try.func12, Try.ntmps12
  go_wp2
  go_loopw [3] (fun i wr => ∃ (p : Nat), i = .int .i64 ((p + 1 : Nat) : Int) ∧ Hid (Below w.heap.size w wr) ∧ Hid (∀ j (hj : j + 1 < l.length), j < p → ltS (l[j]).wd (l[j + 1]).wd = true)) (fun i _ => l.length - (intOf i).toNat)
  case atStart => exact ⟨0, rfl, Lib.hid (Below.refl _ _), Lib.hid (fun j hj h => by omega)⟩
  case round =>
    obtain ⟨p, rfl, hB, HI⟩ := hrel
    by_cases hlt : p + 1 < l.length
    · obtain ⟨b, off, cap, hv, hcap, hblt, hcell⟩ := en_open (HV.out.below hB.out) (by omega)
      have hac : a0 = some ⟨b, off, none⟩ := by simp at hv; exact hv.1
      subst hac
      obtain ⟨e0, e1⟩ := hcell p (by omega)
      obtain ⟨f0, f1⟩ := hcell (p + 1) hlt
      have HN : Hid (ltS (l[p]).wd (l[p + 1]).wd = true → ∀ j (hj : j + 1 < l.length), j < p + 1 → ltS (l[j]).wd (l[j + 1]).wd = true) := Lib.hid (fun h j hj h2 => by
        by_cases e : j = p
        · subst e; exact h
        · exact HI.out j hj (by omega))
      generalize l[p] = x at e0 e1 HN
      generalize l[p + 1] = y at f0 f1 HN
      obtain ⟨q, hq⟩ : ∃ q, p + 1 = q := ⟨_, rfl⟩
      rw [hq] at f0 f1 hlt
      rw [hq]
      have hsub : IntKind.i64.wrap ((q : Int) - 1) = (p : Int) := by rw [IntWalk.i64_in _ (by omega)]; omega
      have hk0 : (0 : Int) ≤ (p : Int) := by omega
      have hk1 : (p : Int) < (l.length : Int) := by omega
      have hk2 : (0 : Int) ≤ (q : Int) := by omega
      have hk3 : (q : Int) < (l.length : Int) := by omega
      have HQ := Lib.hid hq
      unfold ltS at HN
      obtain ⟨bq, hbq⟩ : ∃ bq, Op.bytesLess x.wd y.wd = bq := ⟨_, rfl⟩
      rw [hbq] at HN
      clear hcell hv hq
      cases bq with
      | true =>
        go_wp2_with fail
        refine region_text (fun w' => Below wr.heap.size wr w') (by kernel_rfl) (by kernel_rfl) ((Below.refl _ _).drew) (fun KK hKK => ?_)
        intro OPS
        try simp only [List.append]
        repeat (first
          | (refine' inText_val ?_ ?_ ?_ ?_
             rotate_left 2
             · rfl
             · (intro w' hS; obtain ⟨hcc, hff⟩ := bcell hS; go_simp; try with_reducible rfl)
             · (simp only [Act.put, List.setIfInBounds_toArray, List.set_cons_zero, List.set_cons_succ]; with_reducible rfl))
          | (refine' inText_skip ?_ ?_ ?_
             rotate_left 1
             · rfl
             · (simp only [Act.put, List.setIfInBounds_toArray, List.set_cons_zero, List.set_cons_succ]; with_reducible rfl))
          | (refine' inText_call ?_ ?_ ?_ ?_ ?_
             rotate_left 4
             · rfl
             · (intro w' hS; obtain ⟨hcc, hff⟩ := bcell hS; go_simp; exact ⟨rfl, rfl⟩)
             · (intro w' hS
                first
                  | (go_at_call 38; exact (HK.out w').mono fun e w'' h => ⟨h.1, bl_then hS h.2⟩))
             · (simp only [Act.put, List.setIfInBounds_toArray, List.set_cons_zero, List.set_cons_succ]; with_reducible rfl)))
        refine inText_nil (hKK.out _ (fun w' hS => ?_))
        have HB9 := Lib.hid (bl_then hB.out hS)
        clear hS hKK
        go_wp2
        go_roundw
        case rel => exact ⟨p + 1, by rw [← HQ.out]; go_num, HB9, Lib.hid (by unfold ltS; exact HN.out (by first | exact trivial | rfl))⟩
        case measure => simp [intOf]; omega
      | false =>
        go_wp2_with fail
        refine region_text (fun w' => Below wr.heap.size wr w') (by kernel_rfl) (by kernel_rfl) ((Below.refl _ _).drew) (fun KK hKK => ?_)
        intro OPS
        try simp only [List.append]
        repeat (first
          | (refine' inText_val ?_ ?_ ?_ ?_
             rotate_left 2
             · rfl
             · (intro w' hS; obtain ⟨hcc, hff⟩ := bcell hS; go_simp; try with_reducible rfl)
             · (simp only [Act.put, List.setIfInBounds_toArray, List.set_cons_zero, List.set_cons_succ]; with_reducible rfl))
          | (refine' inText_skip ?_ ?_ ?_
             rotate_left 1
             · rfl
             · (simp only [Act.put, List.setIfInBounds_toArray, List.set_cons_zero, List.set_cons_succ]; with_reducible rfl))
          | (refine' inText_call ?_ ?_ ?_ ?_ ?_
             rotate_left 4
             · rfl
             · (intro w' hS; obtain ⟨hcc, hff⟩ := bcell hS; go_simp; exact ⟨rfl, rfl⟩)
             · (intro w' hS
                first
                  | (go_at_call 38; exact (HK.out w').mono fun e w'' h => ⟨h.1, bl_then hS h.2⟩))
             · (simp only [Act.put, List.setIfInBounds_toArray, List.set_cons_zero, List.set_cons_succ]; with_reducible rfl)))
        refine inText_nil (hKK.out _ (fun w' hS => ?_))
        have HB9 := Lib.hid (bl_then hB.out hS)
        clear hS hKK
        go_wp2
        go_ret
        exact OneW.f HB9.out
    · have HE : Hid (RisesE l) := Lib.hid (rises_next fun j hj => HI.out j hj (by omega))
      go_wp2
      go_ret
      exact OneW.t hB.out HE.out
set_option maxRecDepth 100000 in
set_option maxHeartbeats 4000000 in
theorem refSame35 (va vb : Value) (l : List EnC) (w : World) (ha : Reads Cd.en.seq w va l) (hb : Reads Cd.en.seq w vb l) :
    Calls Try.prog 9 #[va, vb] w fun e w' => e = .returned (.bool true) ∧ Below w.heap.size w w' := by
  have HA := Lib.hid ha
  have HV := Lib.hid hb
  obtain ⟨a0, c0, hv0, hc0, hm0⟩ := ha.len
  subst hv0
  obtain ⟨a1, c1, hv1, hc1, hm1⟩ := hb.len
  subst hv1
  unfold maxLen at hm0
  clear ha hb
  go_enter Try.func9, Try.ntmps9
  go_wp2
  go_loopw [5] (fun i wr => ∃ (p : Nat), i = .int .i64 p ∧ p ≤ l.length ∧ Hid (Below w.heap.size w wr)) (fun i _ => l.length - (intOf i).toNat)
  case atStart => exact ⟨0, rfl, Nat.zero_le _, Lib.hid (Below.refl _ _)⟩
  case round =>
    obtain ⟨p, rfl, hpl, hB⟩ := hrel
    by_cases hlt : p < l.length
    · obtain ⟨b, off, cap, hv, hcap, hblt, hcell⟩ := en_open (HA.out.below hB.out) (by omega)
      have hac : a0 = some ⟨b, off, none⟩ := by simp at hv; exact hv.1
      subst hac
      obtain ⟨e0, e1⟩ := hcell p hlt
      obtain ⟨b', off', cap', hv', hcap', hblt', hcell'⟩ := en_open (HV.out.below hB.out) (by omega)
      have hac' : a1 = some ⟨b', off', none⟩ := by simp at hv'; exact hv'.1
      subst hac'
      obtain ⟨f0, f1⟩ := hcell' p hlt
      generalize l[p] = x at e0 e1 f0 f1
      have hk0 : (0 : Int) ≤ (p : Int) := by omega
      have hk1 : (p : Int) < (l.length : Int) := by omega
      clear hcell hv hcell' hv'
      go_wp2_with fail
      refine region_text (fun w' => Below wr.heap.size wr w') (by kernel_rfl) (by kernel_rfl) ((Below.refl _ _).drew) (fun KK hKK => ?_)
      intro OPS
      try simp only [List.append]
      repeat (first
        | (refine' inText_val ?_ ?_ ?_ ?_
           rotate_left 2
           · rfl
           · (intro w' hS; obtain ⟨hcc, hff⟩ := bcell hS; go_simp; try with_reducible rfl)
           · (simp only [Act.put, List.setIfInBounds_toArray, List.set_cons_zero, List.set_cons_succ]; with_reducible rfl))
        | (refine' inText_skip ?_ ?_ ?_
           rotate_left 1
           · rfl
           · (simp only [Act.put, List.setIfInBounds_toArray, List.set_cons_zero, List.set_cons_succ]; with_reducible rfl))
        | (refine' inText_call ?_ ?_ ?_ ?_ ?_
           rotate_left 4
           · rfl
           · (intro w' hS; obtain ⟨hcc, hff⟩ := bcell hS; go_simp; exact ⟨rfl, rfl⟩)
           · (intro w' hS
              first
                | (go_at_call 38; exact (HK.out w').mono fun e w'' h => ⟨h.1, bl_then hS h.2⟩))
           · (simp only [Act.put, List.setIfInBounds_toArray, List.set_cons_zero, List.set_cons_succ]; with_reducible rfl)))
      refine inText_nil (hKK.out _ (fun w' hS => ?_))
      have HB9 := Lib.hid (bl_then hB.out hS)
      clear hS hKK
      go_wp2
      go_roundw
      case rel => exact ⟨p + 1, by go_num, by omega, HB9⟩
      case measure => simp [intOf]; omega
    · go_wp2
      go_ret
      exact ⟨rfl, hB.out⟩
end Go.Proofs.Ytlkdphbgephfiaa
