/- Contract of clewlaw30.labelled; the walk of AsmNormal. -/
import Derived.Test.YtbcpopakdlplgaaDoorAsmV
namespace Go.Proofs.YtbcpopakdlplgaaDoor
open Go.RowKit Go.PlainAid Go.Maps
set_option linter.unusedVariables false
set_option linter.unusedSimpArgs false

def LabAt (l : List IN) (k : Nat) : Prop := ∀ i (h : i < l.length), i < k → (isL l[i] = true → (i : Int) ≤ stndGo l[i].arg l 0) ∧ (isJ l[i] = true → 0 ≤ stndGo l[i].arg l 0)
/-- A truth value that says so. -/
def SaysB (p : Prop) (w : World) (e : Ending) (w' : World) : Prop := ∃ b : Bool, e = .returned (.bool b) ∧ (b = true → p) ∧ Below w.heap.size w w'
set_option maxRecDepth 100000 in
set_option maxHeartbeats 4000000 in
theorem labelledC (v : Value) (l : List IN) (w : World) (hr : Reads Cd.ins.seq w v l) (hl : l.length ≤ 100000) :
    Calls Tryd.prog 9 #[v] w (SaysB (LabelledP l) w) := by
  obtain ⟨ad, c, hv, hcap, hm⟩ := hr.len
  subst hv
  have HR := Lib.hid hr
  have HC := Lib.hid (cells_of hr).1
  obtain ⟨n, hn⟩ : ∃ n, l.length = n := ⟨_, rfl⟩
  have HN := Lib.hid hn
  rw [hn] at HR hcap hm hl ⊢
  unfold maxLen at hm
  clear hr hn
  go_enter Tryd.func9, Tryd.ntmps9
  go_wp2
  go_loopw [8] (fun i wr => ∃ k : Nat, i = .int .i64 k ∧ k ≤ n ∧ Hid (Below w.heap.size w wr) ∧ Hid (LabAt l k)) (fun i _ => n - (intOf i).toNat)
  case atStart => exact ⟨0, rfl, Nat.zero_le _, Lib.hid (Below.refl _ _), Lib.hid (fun i _ h => by omega)⟩
  case round =>
    obtain ⟨k, rfl, hk, HB, HL⟩ := hrel
    by_cases hlt : k < n
    · have hkl : k < l.length := by rw [HN.out]; exact hlt
      obtain ⟨b, off, ha, hblt, hw, hx0, hx1⟩ := (HC.out.below HB.out) k hkl
      subst ha
      have hbd := stnd_bd l[k].arg l 0
      have HPC := Lib.hid (fun w h => lawPlaceC (.slice (some ⟨b, off, none⟩) n c) l l[k].arg w h (by rw [HN.out]; exact hl))
      obtain ⟨x, hx⟩ : ∃ x, l[k] = x := ⟨_, rfl⟩
      rw [hx] at hw hx0 hx1 HPC hbd
      have HX := Lib.hid hx
      obtain ⟨p, hp⟩ : ∃ p, stndGo x.arg l 0 = p := ⟨_, rfl⟩
      have HPP := Lib.hid hp
      rw [hp] at HPC hbd
      have hk0 : (0 : Int) ≤ (k : Int) := by omega
      have hk1 : (k : Int) < (n : Int) := by omega
      clear hx hp
      obtain ⟨op, arg⟩ := x
      simp only at hx0 hx1 HPC HPP hbd
      by_cases h38 : op = 38
      · subst h38
        by_cases hpk : p < (k : Int)
        · go_wp2_with (go_at_call 22; refine (HPC.out _ (HR.out.below (bl_a HB.out _))).mono ?_; rintro e w2 ⟨rfl, hb2⟩; have hk2 := (BK.new wr [.int .i64 38, .int .i64 arg] 37).below hb2; have k0 := hk2.cell 0; have k1 := hk2.cell 1; simp only [List.getElem?_cons_zero, List.getElem?_cons_succ] at k0 k1; have HB2 := Lib.hid (bl_thenA (bl_a HB.out (.cells #[.int .i64 38, .int .i64 arg] 37)) hb2); clear hb2 hk2)
          go_ret
          exact ⟨false, rfl, fun h => (by cases h), HB2.out⟩
        · have HON : Hid (LabAt l (k + 1)) := Lib.hid (fun i hi hik => by
            by_cases e : i = k
            · subst e
              rw [HX.out]
              simp only
              rw [HPP.out]
              exact ⟨fun _ => by omega, fun h => (by simp [isJ] at h)⟩
            · exact HL.out i hi (by omega))
          go_wp2_with (go_at_call 22; refine (HPC.out _ (HR.out.below (bl_a HB.out _))).mono ?_; rintro e w2 ⟨rfl, hb2⟩; have hk2 := (BK.new wr [.int .i64 38, .int .i64 arg] 37).below hb2; have k0 := hk2.cell 0; have k1 := hk2.cell 1; simp only [List.getElem?_cons_zero, List.getElem?_cons_succ] at k0 k1; have HB2 := Lib.hid (bl_thenA (bl_a HB.out (.cells #[.int .i64 38, .int .i64 arg] 37)) hb2); clear hb2 hk2)
          go_roundw
          case rel => exact ⟨k + 1, by go_num, by omega, HB2, HON⟩
          case measure => simp [intOf]; omega
      · by_cases h24 : op = 24
        · subst h24
          by_cases hp0 : p < 0
          · go_wp2_with (go_at_call 22; refine (HPC.out _ (HR.out.below (bl_a HB.out _))).mono ?_; rintro e w2 ⟨rfl, hb2⟩; have hk2 := (BK.new wr [.int .i64 24, .int .i64 arg] 37).below hb2; have k0 := hk2.cell 0; have k1 := hk2.cell 1; simp only [List.getElem?_cons_zero, List.getElem?_cons_succ] at k0 k1; have HB2 := Lib.hid (bl_thenA (bl_a HB.out (.cells #[.int .i64 24, .int .i64 arg] 37)) hb2); clear hb2 hk2)
            go_ret
            exact ⟨false, rfl, fun h => (by cases h), HB2.out⟩
          · have HON : Hid (LabAt l (k + 1)) := Lib.hid (fun i hi hik => by
              by_cases e : i = k
              · subst e
                rw [HX.out]
                simp only
                rw [HPP.out]
                exact ⟨fun h => (by simp [isL] at h), fun _ => by omega⟩
              · exact HL.out i hi (by omega))
            go_wp2_with (go_at_call 22; refine (HPC.out _ (HR.out.below (bl_a HB.out _))).mono ?_; rintro e w2 ⟨rfl, hb2⟩; have hk2 := (BK.new wr [.int .i64 24, .int .i64 arg] 37).below hb2; have k0 := hk2.cell 0; have k1 := hk2.cell 1; simp only [List.getElem?_cons_zero, List.getElem?_cons_succ] at k0 k1; have HB2 := Lib.hid (bl_thenA (bl_a HB.out (.cells #[.int .i64 24, .int .i64 arg] 37)) hb2); clear hb2 hk2)
            go_roundw
            case rel => exact ⟨k + 1, by go_num, by omega, HB2, HON⟩
            case measure => simp [intOf]; omega
        · by_cases h25 : op = 25
          · subst h25
            by_cases hp0 : p < 0
            · go_wp2_with (go_at_call 22; refine (HPC.out _ (HR.out.below (bl_a HB.out _))).mono ?_; rintro e w2 ⟨rfl, hb2⟩; have hk2 := (BK.new wr [.int .i64 25, .int .i64 arg] 37).below hb2; have k0 := hk2.cell 0; have k1 := hk2.cell 1; simp only [List.getElem?_cons_zero, List.getElem?_cons_succ] at k0 k1; have HB2 := Lib.hid (bl_thenA (bl_a HB.out (.cells #[.int .i64 25, .int .i64 arg] 37)) hb2); clear hb2 hk2)
              go_ret
              exact ⟨false, rfl, fun h => (by cases h), HB2.out⟩
            · have HON : Hid (LabAt l (k + 1)) := Lib.hid (fun i hi hik => by
                by_cases e : i = k
                · subst e
                  rw [HX.out]
                  simp only
                  rw [HPP.out]
                  exact ⟨fun h => (by simp [isL] at h), fun _ => by omega⟩
                · exact HL.out i hi (by omega))
              go_wp2_with (go_at_call 22; refine (HPC.out _ (HR.out.below (bl_a HB.out _))).mono ?_; rintro e w2 ⟨rfl, hb2⟩; have hk2 := (BK.new wr [.int .i64 25, .int .i64 arg] 37).below hb2; have k0 := hk2.cell 0; have k1 := hk2.cell 1; simp only [List.getElem?_cons_zero, List.getElem?_cons_succ] at k0 k1; have HB2 := Lib.hid (bl_thenA (bl_a HB.out (.cells #[.int .i64 25, .int .i64 arg] 37)) hb2); clear hb2 hk2)
              go_roundw
              case rel => exact ⟨k + 1, by go_num, by omega, HB2, HON⟩
              case measure => simp [intOf]; omega
          · have e1 : (op == 38) = false := by simpa using h38
            have e2 : (op == 24) = false := by simpa using h24
            have e3 : (op == 25) = false := by simpa using h25
            have HNO : Hid (isL (⟨op, arg⟩ : IN) = false ∧ isJ (⟨op, arg⟩ : IN) = false) := Lib.hid ⟨e1, by unfold isJ; simp [h24, h25]⟩
            have HON : Hid (LabAt l (k + 1)) := Lib.hid (fun i hi hik => by
              by_cases e : i = k
              · subst e
                rw [HX.out]
                simp only
                rw [HPP.out]
                exact ⟨fun h => (by rw [HNO.out.1] at h; cases h), fun h => (by rw [HNO.out.2] at h; cases h)⟩
              · exact HL.out i hi (by omega))
            go_wp2_with (go_at_call 22; refine (HPC.out _ (HR.out.below (bl_a HB.out _))).mono ?_; rintro e w2 ⟨rfl, hb2⟩; have hk2 := (BK.new wr [.int .i64 op, .int .i64 arg] 37).below hb2; have k0 := hk2.cell 0; have k1 := hk2.cell 1; simp only [List.getElem?_cons_zero, List.getElem?_cons_succ] at k0 k1; have HB2 := Lib.hid (bl_thenA (bl_a HB.out (.cells #[.int .i64 op, .int .i64 arg] 37)) hb2); clear hb2 hk2)
            go_roundw
            case rel => exact ⟨k + 1, by go_num, by omega, HB2, HON⟩
            case measure => simp [intOf]; omega
    · have hkn : k = n := by omega
      subst hkn
      go_wp2
      go_ret
      exact ⟨true, rfl, fun _ i hi => HL.out i hi (by rw [← HN.out]; exact hi), HB.out⟩
set_option maxRecDepth 100000 in
set_option maxHeartbeats 4000000 in
theorem walkNormal (v : Value) (l : List IN) (w : World) (hr : Reads Cd.ins.seq w v l) (htab : Tab w) : Calls Tryd.prog 3 #[v] w fun e w' => e = .returned (.bool true) ∧ Below w.heap.size w w' := by
  have HTab := Lib.hid htab
  have HAW := Lib.hid (fun w' (hb : Below w.heap.size w w') => awakeC w' (tab_belowA HTab.out hb))
  have HIW := Lib.hid (ins_wf hr)
  obtain ⟨a, c, hv, hcap, hm⟩ := hr.len
  subst hv
  have HR := Lib.hid hr
  have HLB := Lib.hid (fun hl => labelledC _ l w hr hl)
  obtain ⟨n, hn⟩ : ∃ n, l.length = n := ⟨_, rfl⟩
  have HN := Lib.hid hn
  rw [hn] at HR hcap hm HLB ⊢
  unfold maxLen at hm
  clear hr hn htab
  by_cases hbig : 150 < n
  · go_enter Tryd.func3, Tryd.ntmps3
    go_wp2_with (go_at_call 10; refine (HAW.out _ (Below.refl _ _)).mono ?_; rintro e w1 ⟨rfl, hb1⟩)
    go_ret
    exact ⟨rfl, hb1⟩
  · go_enter Tryd.func3, Tryd.ntmps3
    go_wp2_with fail
    refine (HLB.out (by omega)).mono ?_
    rintro e w1 ⟨b, rfl, hlab, hb1⟩
    have HLA := Lib.hid hlab
    have HB1 := Lib.hid hb1
    clear hlab hb1
    cases b with
    | false =>
      go_wp2_with (go_at_call 10; refine (HAW.out _ HB1.out).mono ?_; rintro e w5 ⟨rfl, hb5⟩)
      go_ret
      exact ⟨rfl, bl_thenA HB1.out hb5⟩
    | true =>
      have hNL := normal_law (HLA.out rfl)
      have HNL := Lib.hid hNL
      have HI := Lib.hid (norm_inl HIW.out (by rw [HN.out]; omega))
      have HLen : Hid ((normP l).length ≤ n) := Lib.hid (by rw [← HN.out]; exact norm_len l)
      clear hNL
      go_wp2_with fail
      refine (normC _ l _ (HR.out.below HB1.out) (by rw [HN.out]; omega)).mono ?_
      rintro e w2 ⟨v2, rfl, ho2, hb2⟩
      have HR2 := Lib.hid (OwI.reads ho2 (by have := HLen.out; unfold maxLen; omega) HI.out)
      have HB2 := Lib.hid (bl_thenA HB1.out hb2)
      clear ho2 hb2
      go_wp2_with fail
      refine (refNormC _ l _ (HR.out.below HB2.out) (by rw [HN.out]; omega)).mono ?_
      rintro e w3 ⟨v3, rfl, ho3, hb3, _⟩
      rw [← HNL.out.1] at ho3
      have HR3 := Lib.hid (OwI.reads ho3 (by have := HLen.out; unfold maxLen; omega) HI.out)
      have H23 := Lib.hid hb3
      clear ho3 hb3
      go_wp2_with fail
      refine (sameC _ _ _ _ (HR2.out.below H23.out) HR3.out).mono ?_
      rintro e w4 ⟨rfl, q, rfl⟩
      have H24 := Lib.hid (bl_drewN H23.out q)
      go_wp2_with fail
      refine (normC _ _ _ (HR2.out.below H24.out) (by have := HLen.out; omega)).mono ?_
      rintro e w5 ⟨v5, rfl, ho5, hb5⟩
      rw [HNL.out.2] at ho5
      have HR5 := Lib.hid (OwI.reads ho5 (by have := HLen.out; unfold maxLen; omega) HI.out)
      have H25 := Lib.hid (bl_thenA H24.out hb5)
      clear ho5 hb5
      go_wp2_with fail
      refine (sameC _ _ _ _ HR5.out (HR2.out.below H25.out)).mono ?_
      rintro e w6 ⟨rfl, q6, rfl⟩
      have HB6 := Lib.hid (bl_drewN (bl_thenA HB2.out H25.out) q6)
      go_wp2_with (go_at_call 10; refine (HAW.out _ HB6.out).mono ?_; rintro e w7 ⟨rfl, hb7⟩)
      go_ret
      exact ⟨rfl, bl_thenA HB6.out hb7⟩
end Go.Proofs.YtbcpopakdlplgaaDoor
