/- The walk of AsmLeast. -/
import Derived.Test.YtbcpopakdlplgaaDoorAsmLaw
import Derived.Deep.RegionHeld3
namespace Go.Proofs.YtbcpopakdlplgaaDoor
open Go.RowKit Go.PlainAid Go.Maps
set_option linter.unusedVariables false
set_option linter.unusedSimpArgs false

theorem cut_conv {w : World} {v : Value} {b E : List UInt8} {k z m : Nat} (hr : Reads Cd.byte.seq w v b) (hm : b.length = m) (hz : z ≤ m) (hk : k < z) (hE : E = (b.drop k).take (z - k)) :
    ∃ g off c, v = .slice (some ⟨g, off, none⟩) m c ∧ m ≤ c ∧ ∀ w', Below w.heap.size w w' → (convert 27 9 (.slice (some ⟨g, off + k, none⟩) (z - k) (c - k))).run Tryd.prog w' = .ok (.string (mkB E)) w' := by
  obtain ⟨g, off, c, rfl, h1, h2, h3⟩ := byte_open hr (by omega)
  rw [hm] at h1 ⊢
  refine ⟨g, off, c, rfl, h1, fun w' hb => ?_⟩
  have hl : E.length = z - k := by rw [hE, List.length_take, List.length_drop]; omega
  have := run_convert_bytes_back (P := Tryd.prog) w' 27 9 5 ⟨g, off + k, none⟩ (c - k) E Tryd.underlying27 Tryd.underlying5 Tryd.underlying9 (fun j hj => by
    have h4 : E[j] = b[k + j]'(by omega) := by
      have e : E[j]? = b[k + j]? := by rw [hE, List.getElem?_take_of_lt (by omega), List.getElem?_drop]
      rw [List.getElem?_eq_getElem hj, List.getElem?_eq_getElem (by omega)] at e
      exact Option.some.inj e
    rw [addr_addC, hb.cell (p := ⟨g, off + k + j, none⟩) h2, h4]
    have := h3 (k + j) (by omega)
    rw [← Nat.add_assoc] at this; exact this)
  rw [hl] at this
  exact this
set_option maxRecDepth 100000 in
set_option maxHeartbeats 8000000 in
theorem walkLeast (v : Value) (l : List IN) (w : World) (hr : Reads Cd.ins.seq w v l) (htab : Tab w) : Calls Tryd.prog 8 #[v] w fun e w' => e = .returned (.bool true) ∧ Below w.heap.size w w' := by
  have HTab := Lib.hid htab
  have HAW := Lib.hid (fun w' (hb : Below w.heap.size w w') => awakeC w' (tab_belowA HTab.out hb))
  obtain ⟨a, c, hv, hcap, hm⟩ := hr.len
  subst hv
  have HR := Lib.hid hr
  obtain ⟨n, hn⟩ : ∃ n, l.length = n := ⟨_, rfl⟩
  have HN := Lib.hid hn
  rw [hn] at HR hcap hm ⊢
  unfold maxLen at hm
  clear hr hn htab
  by_cases hbig : 150 < n
  · go_enter Tryd.func8, Tryd.ntmps8
    go_wp2_with (go_at_call 10; refine (HAW.out _ (Below.refl _ _)).mono ?_; rintro e w1 ⟨rfl, hb1⟩)
    go_ret
    exact ⟨rfl, hb1⟩
  · by_cases hw : wrongP l = 0
    · have HAS := Lib.hid (asmOk _ l w HR.out (by rw [HN.out]; omega) hw)
      clear hw
      go_enter Tryd.func8, Tryd.ntmps8
      go_wp2_with fail
      refine HAS.out.mono ?_
      rintro e w1 ⟨b, v1, hb, rfl, ho1, hb1⟩
      have hbl := code_len3 (by rw [HN.out]; omega) hb
      have HR1 := Lib.hid (OwB.reads ho1 (by unfold maxLen; omega))
      obtain ⟨ys, hys, hyc⟩ := least_law (by rw [HN.out]; omega) hb
      have HYS := Lib.hid hys
      have HYC := Lib.hid hyc
      obtain ⟨a1, c1, hv1, hcap1, _⟩ := HR1.out.len
      obtain ⟨m, hm1⟩ : ∃ m, b.length = m := ⟨_, rfl⟩
      have HM := Lib.hid hm1
      rw [hm1] at hv1 hcap1 hbl
      subst hv1
      have HB1 := Lib.hid hb1
      clear ho1 hb hb1 hys hyc hm1
      go_wp2_with fail
      go_loopw [5] (fun i wr => ∃ (done rest : List IN), i = .int .i64 ((done.flatMap encI).length : Nat) ∧ Hid (ys = done ++ rest) ∧ Hid (Below w1.heap.size w1 wr)) (fun i _ => m - (intOf i).toNat)
      case atStart => exact ⟨[], ys, rfl, Lib.hid rfl, Lib.hid (Below.refl _ _)⟩
      case round =>
        obtain ⟨done, rest, rfl, HD, HB⟩ := hrel
        obtain ⟨k, hk⟩ : ∃ k, (done.flatMap encI).length = k := ⟨_, rfl⟩
        have HK := Lib.hid hk
        rw [hk]
        cases rest with
        | nil =>
          have hkm : k = m := by rw [← hk, ← HM.out, HYS.out, HD.out, List.append_nil]
          subst hkm
          clear hk
          go_wp2_with (go_at_call 10; refine (HAW.out _ (bl_thenA HB1.out HB.out)).mono ?_; rintro e w5 ⟨rfl, hb5⟩)
          go_ret
          exact ⟨rfl, bl_thenA (bl_thenA HB1.out HB.out) hb5⟩
        | cons y rest =>
          have hb0 : b = done.flatMap encI ++ (encI y ++ rest.flatMap encI) := by rw [HYS.out, HD.out]; simp
          have hc := HYC.out y (by rw [HD.out]; simp)
          obtain ⟨hdec, hlen1⟩ := dec_c hc (rest.flatMap encI)
          have hdrop : b.drop k = encI y ++ rest.flatMap encI := by rw [hb0, ← hk, List.drop_left]
          obtain ⟨E, hE⟩ : ∃ E, encI y = E := ⟨_, rfl⟩
          rw [hE] at hdec hlen1 hdrop
          obtain ⟨z, hz⟩ : ∃ z, k + E.length = z := ⟨_, rfl⟩
          have hzm : z ≤ m := by
            have := congrArg List.length hdrop
            rw [List.length_drop, List.length_append, HM.out] at this; omega
          have hkz : k < z := by omega
          have HZ : Hid (((done ++ [y]).flatMap encI).length = z) := Lib.hid (by rw [List.flatMap_append, List.length_append, HK.out, ← hz, ← hE]; simp)
          obtain ⟨g, off, c', hv, hcc, hcv⟩ := cut_conv (E := E) (k := k) (z := z) HR1.out HM.out hzm hkz (by rw [hdrop, ← hz, Nat.add_sub_cancel_left, List.take_left])
          have hv' : a1 = some ⟨g, off, none⟩ ∧ c1 = c' := by simpa using hv
          obtain ⟨rfl, rfl⟩ := hv'
          have HCV := Lib.hid hcv
          have HDC := Lib.hid (decC _ b k wr (HR1.out.below HB.out) (by rw [HM.out]; omega) (by rw [HM.out]; omega))
          rw [hdrop, hdec, show decV (.inr (y, E.length)) k = .tuple #[.agg #[.int .i64 y.op, .int .i64 y.arg], .int .i64 ((k + E.length : Nat) : Int), .int .i64 0] from rfl, hz] at HDC
          have HEN := Lib.hid (fun w => encC y w)
          rw [hE] at HEN
          have hi0 : (0 : Int) ≤ (k : Int) := by omega
          have hi1 : (k : Int) < (z : Int) := by omega
          have hi2 : (z : Int) ≤ (m : Int) := by omega
          have hi3 : (k : Int) ≤ (z : Int) := by omega
          have hi4 : (z : Int) ≤ (c1 : Int) := by omega
          have hi5 : (k : Int) < (m : Int) := by omega
          have hi6 : z ≤ c1 := by omega
          have hiE : k < c1 := by omega
          have hiF : ¬ k = c1 := by omega
          have hiG : ¬ c1 = k := by omega
          have hiH : ¬ c1 - k = 0 := by omega
          have hiI : ¬ c1 ≤ k := by omega
          have hiJ : 0 < c1 - k := by omega
          have hi8 : decide (z ≤ k) = false := by simp; omega
          have hi9 : decide (m < z) = false := by simp; omega
          have hiA : decide ((z : Int) ≤ (k : Int)) = false := by simp; omega
          have hiB : decide ((m : Int) < (z : Int)) = false := by simp; omega
          have hiC : ¬ z ≤ k := by omega
          have hiD : ¬ m < z := by omega
          have hi7 : k ≤ z := by omega
          have HEl : Hid (E.length ≤ 3000) := Lib.hid (by omega)
          clear hk hb0 hc hdec hdrop hE hv hcv hz hlen1
          go_wp2_with fail
          refine HDC.out.mono ?_
          rintro e w2 ⟨rfl, hb2⟩
          obtain ⟨W, hW⟩ : ∃ W, w2.alloc (.cells #[.int .i64 y.op, .int .i64 y.arg] 37) = W := ⟨_, rfl⟩
          have HKW : Hid (BK W w2.heap.size [.int .i64 y.op, .int .i64 y.arg] 37) := Lib.hid (by rw [← hW]; exact BK.new w2 _ _)
          have HBW : Hid (Below w1.heap.size w1 W) := Lib.hid (by rw [← hW]; exact bl_a (bl_thenA HB.out hb2) _)
          have z0 := HKW.out.cell 0
          have z1 := HKW.out.cell 1
          simp only [List.getElem?_cons_zero, List.getElem?_cons_succ] at z0 z1
          have hcv0 := HCV.out W.drew HBW.out.drew
          clear hb2
          go_wp2_with fail
          go_region_held (fun w' => w'.cell? ⟨w2.heap.size, 0, none⟩ = some (.int .i64 y.op) ∧ w'.cell? ⟨w2.heap.size, 1, none⟩ = some (.int .i64 y.arg) ∧ (convert 27 9 (.slice (some ⟨g, off + k, none⟩) (z - k) (c1 - k))).run Tryd.prog w' = .ok (.string (mkB E)) w') (first | (exact ⟨z0, z1, hcv0⟩) | (exact HS4.out) | (go_keep; done)) (first
            | (go_at_call 21; refine (HEN.out _).mono ?_; rintro e w4 ⟨v4, rfl, ho4, hb4⟩; obtain ⟨a4, c4, rfl⟩ := ow_shape ho4; have hcvE := str_reads (OwB.reads ho4 (by have := HEl.out; unfold maxLen; omega)); have HB4 := Lib.hid (bl_thenA HBW.out.drew hb4); have hcv4 := HCV.out w4 HB4.out; have hk4 := (HKW.out.drewN 1).below hb4; have y0 := hk4.cell 0; have y1 := hk4.cell 1; simp only [List.getElem?_cons_zero, List.getElem?_cons_succ] at y0 y1; have HS4 := Lib.hid (And.intro y0 (And.intro y1 hcv4)); clear ho4 hb4 hk4)
            | (fail))
          go_wp2_with fail
          go_roundw
          case rel => exact ⟨done ++ [y], rest, by rw [HZ.out], Lib.hid (by rw [HD.out]; simp), HB4⟩
          case measure => simp [intOf]; omega
    · have HAS := Lib.hid (asmBad _ l w HR.out (by rw [HN.out]; omega) _ rfl hw)
      obtain ⟨x, hx⟩ : ∃ x, wrongP l = x := ⟨_, rfl⟩
      rw [hx] at HAS hw
      have hne : (x != 0) = true := by simpa using hw
      clear hx
      go_enter Tryd.func8, Tryd.ntmps8
      go_wp2_with (first | (go_at_call 14; refine HAS.out.mono ?_; rintro e w1 ⟨rfl, hb1⟩; have HB1 := Lib.hid hb1; clear hb1) | (go_at_call 10; refine (HAW.out _ HB1.out).mono ?_; rintro e w5 ⟨rfl, hb5⟩) | (fail))
      go_ret
      exact ⟨rfl, bl_thenA HB1.out hb5⟩
end Go.Proofs.YtbcpopakdlplgaaDoor
