/- The walk of LexJoins. -/
import Derived.Test.YtmelilppeikdiaaLaw09b
import Derived.Test.YtmelilppeikdiaaGluePlain
namespace Go.Proofs.Ytmelilppeikdiaa
open Go.RowKit Go.PlainAid
set_option linter.unusedVariables false
set_option linter.unusedSimpArgs false

theorem glue_facts {a : ByteArray} {L1 L2 L3 outA : List TT} {e : TT} (h1 : L1 = outA ++ [e]) (h3 : L3 = outA ++ L2.map (shiftT a)) : ∀ k (h : k < L3.length),
    (k + 1 < L1.length → ∃ h' : k < L1.length, L1[k] = L3[k]) ∧ (L1.length ≤ k + 1 → ∃ h' : k + 1 - L1.length < L2.length, L3[k] = shiftT a L2[k + 1 - L1.length]) := by
  intro k h
  subst h1; subst h3
  simp at h
  refine ⟨fun hk => ⟨by omega, ?_⟩, fun hk => ?_⟩
  · simp at hk
    exact (List.getElem_append_left hk).trans (List.getElem_append_left hk).symm
  · simp at hk
    refine ⟨by rw [List.length_append]; simp; omega, ?_⟩
    rw [List.getElem_append_right (by omega), List.getElem_map]
    have : k - outA.length = k + 1 - (outA ++ [e]).length := by simp
    simp only [this]
theorem glue_bytes (a b : ByteArray) : (a ++ ⟨#[10]⟩ ++ b).data.toList = a.data.toList ++ 10 :: b.data.toList := by
  rw [ByteArray.data_append, ByteArray.data_append]; simp

set_option maxRecDepth 100000 in
set_option maxHeartbeats 4000000 in
theorem walkJoins_long (a b : ByteArray) (m : Int) (w : World) (wa : a.size ≤ maxLen) (wb : b.size ≤ maxLen) (hl : 400 < a.size ∨ 400 < b.size) (hm : w.cell? ⟨0, 0, none⟩ = some (.int .i64 m)) :
    Calls Try.prog 6 #[.string a, .string b] w fun e w' => e = .returned (.bool true) ∧ Below w.heap.size w w' := by
  unfold maxLen at wa wb
  have HM := Lib.hid hm
  clear hm
  by_cases ha : 400 < a.size
  · go_enter Try.func6, Try.ntmps6
    go_wp2_with (first | (go_at_call 8; refine (awake09 m _ HM.out).mono ?_; rintro e w1 ⟨rfl, hb1⟩; have HB1 := Lib.hid hb1; clear hb1))
    go_ret
    exact ⟨rfl, HB1.out⟩
  · have hb : 400 < b.size := by omega
    clear hl
    go_enter Try.func6, Try.ntmps6
    go_wp2_with (first | (go_at_call 8; refine (awake09 m _ HM.out).mono ?_; rintro e w1 ⟨rfl, hb1⟩; have HB1 := Lib.hid hb1; clear hb1))
    go_ret
    exact ⟨rfl, HB1.out⟩

set_option maxRecDepth 100000 in
set_option maxHeartbeats 8000000 in
theorem walkJoins_fits (a b : ByteArray) (m : Int) (w : World) (ha : a.size ≤ 400) (hb : b.size ≤ 400) (hm : w.cell? ⟨0, 0, none⟩ = some (.int .i64 m)) :
    Calls Try.prog 6 #[.string a, .string b] w fun e w' => e = .returned (.bool true) ∧ Below w.heap.size w w' := by
  have HM := Lib.hid hm
  clear hm
  obtain ⟨s, hs⟩ : ∃ s, a ++ ⟨#[10]⟩ ++ b = s := ⟨_, rfl⟩
  have hcb : s.data.toList = a.data.toList ++ 10 :: b.data.toList := by rw [← hs]; exact glue_bytes a b
  have hcs := glue_size hcb
  have HA := Lib.hid (fun w h => lexAll_fits a m w (by omega) h)
  have HB := Lib.hid (fun w h => lexAll_fits b m w (by omega) h)
  have HC := Lib.hid (fun w h => lexAll_fits s m w (by omega) h)
  have HG := Lib.hid (glue_all hcb (by omega))
  have HGa := Lib.hid (allR_good a (by omega))
  have HGb := Lib.hid (allR_good b (by omega))
  have HGs := Lib.hid (allR_good s (by omega))
  have HS := Lib.hid hs
  generalize allR a = A at HA HG HGa
  generalize allR b = B at HB HG HGb
  generalize allR s = C at HC HG HGs
  clear hcb hs
  go_enter Try.func6, Try.ntmps6
  go_wp2_with fail
  refine (HA.out _ HM.out).mono ?_
  rintro e w1 ⟨v1, rfl, hv1, hb1⟩
  have HB1 := Lib.hid (bl_a hb1 (.cells #[.int .i64 A.err, .int .i64 A.fl, .int .i64 A.fc] 28))
  have HV1 := Lib.hid (hv1.below (one_alloc w1 (.cells #[.int .i64 A.err, .int .i64 A.fl, .int .i64 A.fc] 28)))
  have HF1 := Lib.hid (BK.new w1 [.int .i64 A.err, .int .i64 A.fl, .int .i64 A.fc] 28)
  have HM1 := Lib.hid (hm_below HM.out HB1.out)
  clear hb1 hv1
  go_wp2_with fail
  refine (HB.out _ HM1.out).mono ?_
  rintro e w2 ⟨v2, rfl, hv2, hb2⟩
  have hb2' := bl_a hb2 (.cells #[.int .i64 B.err, .int .i64 B.fl, .int .i64 B.fc] 28)
  have HB2 := Lib.hid (bl_then HB1.out hb2')
  have HV12 := Lib.hid (HV1.out.below hb2')
  have HV2 := Lib.hid (hv2.below (one_alloc w2 (.cells #[.int .i64 B.err, .int .i64 B.fl, .int .i64 B.fc] 28)))
  have HF12 := Lib.hid (HF1.out.below hb2')
  have HF2 := Lib.hid (BK.new w2 [.int .i64 B.err, .int .i64 B.fl, .int .i64 B.fc] 28)
  have HM2 := Lib.hid (hm_below HM.out HB2.out)
  clear hb2 hv2 hb2'
  go_wp2_with fail
  rw [HS.out]
  refine (HC.out _ HM2.out).mono ?_
  rintro e w3 ⟨v3, rfl, hv3, hb3⟩
  have HB3 := Lib.hid (fun o => bl_a (bl_then HB2.out hb3) o)
  have HV13 := Lib.hid (fun o => (HV12.out.below hb3).below (one_alloc w3 o))
  have HV23 := Lib.hid (fun o => (HV2.out.below hb3).below (one_alloc w3 o))
  have HV3 := Lib.hid (fun o => hv3.below (one_alloc w3 o))
  have HV30 := Lib.hid hv3
  have HF13 := Lib.hid (HF12.out.below hb3)
  have HF23 := Lib.hid (HF2.out.below hb3)
  have HM3 := Lib.hid (fun o => hm_below HM.out (HB3.out o))
  have f10 := HF13.out.cell 0
  have f11 := HF13.out.cell 1
  have f12 := HF13.out.cell 2
  have f20 := HF23.out.cell 0
  have f21 := HF23.out.cell 1
  have f22 := HF23.out.cell 2
  have hl1 := HF13.out.lt
  have hl2 := HF23.out.lt
  clear hb3 hv3
  by_cases hEA : A.err = 0
  · obtain ⟨z1, z2⟩ := HGa.out.zero hEA
    have e10 := f10.trans (show _ = some (Value.int .i64 0) by rw [hEA]; rfl)
    have e11 := f11.trans (show _ = some (Value.int .i64 0) by rw [z1]; rfl)
    have e12 := f12.trans (show _ = some (Value.int .i64 0) by rw [z2]; rfl)
    clear f10 f11 f12
    by_cases hEB : B.err = 0
    · obtain ⟨y1, y2⟩ := HGb.out.zero hEB
      have e20 := f20.trans (show _ = some (Value.int .i64 0) by rw [hEB]; rfl)
      have e21 := f21.trans (show _ = some (Value.int .i64 0) by rw [y1]; rfl)
      have e22 := f22.trans (show _ = some (Value.int .i64 0) by rw [y2]; rfl)
      obtain ⟨g0, outA, e, g1, g3⟩ := HG.out.2.2 hEA hEB
      clear f20 f21 f22 z1 z2 y1 y2
      obtain ⟨L1, hL1⟩ : ∃ L, A.toks = L := ⟨_, rfl⟩
      obtain ⟨L2, hL2⟩ : ∃ L, B.toks = L := ⟨_, rfl⟩
      obtain ⟨L3, hL3⟩ : ∃ L, C.toks = L := ⟨_, rfl⟩
      rw [hL1] at g1
      rw [hL2, hL3] at g3
      have HP := Lib.hid (glue_facts g1 g3)
      rw [hL1] at HV13
      rw [hL2] at HV23
      rw [hL3] at HV3
      obtain ⟨n1, hn1⟩ : ∃ n, L1.length = n := ⟨_, rfl⟩
      obtain ⟨n2, hn2⟩ : ∃ n, L2.length = n := ⟨_, rfl⟩
      obtain ⟨n3, hn3⟩ : ∃ n, L3.length = n := ⟨_, rfl⟩
      have r1 : (tokRows L1).length = n1 := by simp [tokRows, hn1]
      have r2 : (tokRows L2).length = n2 := by simp [tokRows, hn2]
      have r3 : (tokRows L3).length = n3 := by simp [tokRows, hn3]
      obtain ⟨_, _, hq, _, _, hlen2⟩ := HGb.out.toks hEB
      have hlen1 := (HGa.out.toks hEA).choose_spec.choose_spec.2.2.2
      have hp1 : 0 < n1 := by rw [← hn1, g1]; simp
      have hp2 : 0 < n2 := by rw [← hn2, ← hL2, hq]; simp
      have hsum : n3 + 1 = n1 + n2 := by
        have a1 := congrArg List.length g1
        have a3 := congrArg List.length g3
        simp at a1 a3; omega
      rw [hL1] at hlen1
      rw [hL2] at hlen2
      have hb1 : n1 ≤ 16385 := by omega
      have hb2 : n2 ≤ 16385 := by omega
      obtain ⟨b1, o1, c1, hv1, _⟩ := (HV13.out (.cells #[] 0)).open (by omega)
      obtain ⟨b2, o2, c2, hv2, _⟩ := (HV23.out (.cells #[] 0)).open (by omega)
      obtain ⟨b3, o3, c3, hv3, _⟩ := (HV3.out (.cells #[] 0)).open (by omega)
      rw [r1] at hv1
      rw [r2] at hv2
      rw [r3] at hv3
      subst hv1
      subst hv2
      subst hv3
      have R1 := Lib.hid r1
      have R2 := Lib.hid r2
      have R3 := Lib.hid r3
      have N1 := Lib.hid hn1
      have N2 := Lib.hid hn2
      have N3 := Lib.hid hn3
      have hx1 : (n1 : Int) - 1 + n2 = n3 := by omega
      have HX1 := Lib.hid hx1
      clear g0 g1 g3 hL1 hL2 hL3 hn1 hn2 hn3 r1 r2 r3 hq hlen1 hlen2 hEA hEB hx1
      have hd1 : ((n1 : Int) == 0) = false := by simp; omega
      have hd2 : ((n3 : Int) != (n1 : Int) - 1 + (n2 : Int)) = false := by simp; omega
      go_wp2_with fail
      go_loopw [95] (fun p wr => ∃ k : Nat, k ≤ n3 ∧ p = .int .i64 k ∧ Hid (Below w.heap.size w wr) ∧ Hid (SLN 5 wr (.slice (some ⟨b1, o1, none⟩) n1 c1) (tokRows L1)) ∧ Hid (SLN 5 wr (.slice (some ⟨b2, o2, none⟩) n2 c2) (tokRows L2)) ∧ Hid (SLN 5 wr (.slice (some ⟨b3, o3, none⟩) n3 c3) (tokRows L3))) (fun p _ => n3 - (intOf p).toNat)
      case atStart => exact ⟨0, by omega, rfl, Lib.hid (HB3.out _), Lib.hid (HV13.out _), Lib.hid (HV23.out _), Lib.hid (HV3.out _)⟩
      case round =>
        obtain ⟨k, hk, rfl, hB, hS1, hS2, hS3⟩ := hrel
        by_cases hkn : k < n3
        · obtain ⟨f1, f2⟩ := HP.out k (by rw [N3.out]; exact hkn)
          have hc3 := SLN.at hS3.out
          have r3 : k < (tokRows L3).length := by rw [R3.out]; exact hkn
          have hx : (tokRows L3)[k] = tokCells (L3[k]'(by rw [N3.out]; exact hkn)) := by simp [tokRows]
          obtain ⟨x, hxe⟩ : ∃ x, (L3[k]'(by rw [N3.out]; exact hkn)) = x := ⟨_, rfl⟩
          have a0 := hc3 k 0 r3 (by decide)
          have a1 := hc3 k 1 r3 (by decide)
          have a2 := hc3 k 2 r3 (by decide)
          have a3 := hc3 k 3 r3 (by decide)
          have a4 := hc3 k 4 r3 (by decide)
          rw [hx, hxe] at a0 a1 a2 a3 a4
          rw [hxe] at f1 f2
          simp [tokCells] at a0 a1 a2 a3 a4
          obtain ⟨W, hW⟩ : ∃ W, wr.alloc (.cells #[.int .i64 x.t.kind, .string (mkB x.t.text), .int .i64 x.t.num, .int .i64 x.l, .int .i64 x.c] 33) = W := ⟨_, rfl⟩
          have HT : Hid (BK W wr.heap.size (tokCells x) 33) := Lib.hid (by rw [← hW]; exact BK.new wr (tokCells x) 33)
          have HBW : Hid (Below wr.heap.size wr W) := Lib.hid (by rw [← hW]; exact one_alloc _ _)
          have hc1 := SLN.at (hS1.out.below HBW.out)
          have hc2 := SLN.at (hS2.out.below HBW.out)
          have t0 : W.cell? ⟨wr.heap.size, 0, none⟩ = some (.int .i64 x.t.kind) := HT.out.cell 0
          have t1 : W.cell? ⟨wr.heap.size, 1, none⟩ = some (.string (mkB x.t.text)) := HT.out.cell 1
          have t2 : W.cell? ⟨wr.heap.size, 2, none⟩ = some (.int .i64 x.t.num) := HT.out.cell 2
          have t3 : W.cell? ⟨wr.heap.size, 3, none⟩ = some (.int .i64 x.l) := HT.out.cell 3
          have t4 : W.cell? ⟨wr.heap.size, 4, none⟩ = some (.int .i64 x.c) := HT.out.cell 4
          have HWE := Lib.hid hW
          clear hW hx hxe r3 hc3
          have hki : (k : Int) < (n3 : Int) := by omega
          have hk00 : (0 : Int) ≤ (k : Int) := by omega
          have hw1 : IntKind.i64.wrap ((n1 : Int) - 1) = (n1 : Int) - 1 := IntWalk.i64_in _ (by omega)
          by_cases hlt : k + 1 < n1
          · obtain ⟨h', hL⟩ := f1 (by rw [N1.out]; exact hlt)
            have r1 : k < (tokRows L1).length := by rw [R1.out]; omega
            have hy : (tokRows L1)[k] = tokCells (L1[k]) := by simp [tokRows]
            have d0 := hc1 k 0 r1 (by decide)
            have d1 := hc1 k 1 r1 (by decide)
            have d2 := hc1 k 2 r1 (by decide)
            have d3 := hc1 k 3 r1 (by decide)
            have d4 := hc1 k 4 r1 (by decide)
            rw [hy, hL] at d0 d1 d2 d3 d4
            simp [tokCells] at d0 d1 d2 d3 d4
            have hdd : decide ((k : Int) < (n1 : Int) - 1) = true := by simp; omega
            have hde : decide ((n1 : Int) - 1 ≤ (k : Int)) = false := by simp; omega
            have hkk : (k : Int) < (n1 : Int) := by omega
            clear f1 f2 hc1 hc2 hy hL r1 h'
            go_wp2_with fail
            rw [HWE.out]
            go_quiet (fail)
            go_wp2
            go_roundw
            case rel => exact ⟨k + 1, hkn, by go_num, Lib.hid (bl_drewN (bl_then hB.out HBW.out) _), Lib.hid (hS1.out.below (bl_drewN HBW.out _)), Lib.hid (hS2.out.below (bl_drewN HBW.out _)), Lib.hid (hS3.out.below (bl_drewN HBW.out _))⟩
            case measure => simp [intOf]; omega
          · obtain ⟨h', hL⟩ := f2 (by rw [N1.out]; omega)
            have r2 : k + 1 - n1 < (tokRows L2).length := by rw [R2.out]; omega
            have hj : k + 1 - L1.length = k + 1 - n1 := by rw [N1.out]
            have hy : (tokRows L2)[k + 1 - n1] = tokCells (L2[k + 1 - L1.length]) := by simp only [tokRows, List.getElem_map, hj]
            have d0 := hc2 (k + 1 - n1) 0 r2 (by decide)
            have d1 := hc2 (k + 1 - n1) 1 r2 (by decide)
            have d2 := hc2 (k + 1 - n1) 2 r2 (by decide)
            rw [hy] at d0 d1 d2
            have hxt : x.t = (L2[k + 1 - L1.length]).t := by rw [hL]; rfl
            simp only [tokCells, List.getElem?_cons_zero, List.getElem?_cons_succ, Nat.add_zero, ← hxt] at d0 d1 d2
            have hdd : decide ((k : Int) < (n1 : Int) - 1) = false := by simp; omega
            have hde : decide ((n1 : Int) - 1 ≤ (k : Int)) = true := by simp; omega
            have hw2 : IntKind.i64.wrap ((k : Int) - (n1 : Int)) = (k : Int) - (n1 : Int) := IntWalk.i64_in _ (by omega)
            have hw3 : IntKind.i64.wrap ((k : Int) - (n1 : Int) + 1) = (k : Int) - (n1 : Int) + 1 := IntWalk.i64_in _ (by omega)
            have hw4 : (0 : Int) ≤ (k : Int) - (n1 : Int) + 1 := by omega
            have hw5 : ((k : Int) - (n1 : Int) + 1).toNat = k + 1 - n1 := by omega
            have hw6 : (k : Int) - (n1 : Int) + 1 < (n2 : Int) := by omega
            clear f1 f2 hc1 hc2 hy hL r2 h' hj hxt
            go_wp2_with fail
            rw [HWE.out]
            go_quiet (fail)
            go_wp2
            go_roundw
            case rel => exact ⟨k + 1, hkn, by go_num, Lib.hid (bl_drewN (bl_then hB.out HBW.out) _), Lib.hid (hS1.out.below (bl_drewN HBW.out _)), Lib.hid (hS2.out.below (bl_drewN HBW.out _)), Lib.hid (hS3.out.below (bl_drewN HBW.out _))⟩
            case measure => simp [intOf]; omega
        · have hm2 := hm_below HM.out hB.out
          have HMb := Lib.hid hm2
          clear hm2
          have hkn' : ¬ (k : Int) < (n3 : Int) := by omega
          go_wp2_with (first | (go_at_call 8; refine (awake09 m _ HMb.out).mono ?_; rintro e w4 ⟨rfl, hb4⟩; have HB4 := Lib.hid hb4; clear hb4))
          go_ret
          exact ⟨rfl, bl_then hB.out HB4.out⟩
    · obtain ⟨g1, g2, g3, g4⟩ := HG.out.2.1 hEA hEB
      have hB1 : (B.err == 0) = false := by simp [hEB]
      have hB2 : (C.err == B.err) = true := by simp [g1]
      have hB3 : (C.fc == B.fc) = true := by simp [g2]
      clear g1 g2 hEA hEB z1 z2
      go_wp2_with (first | (go_at_call 8; refine (awake09 m _ (HM3.out _)).mono ?_; rintro e w4 ⟨rfl, hb4⟩; have HB4 := Lib.hid hb4; clear hb4))
      go_ret
      exact ⟨rfl, bl_then (HB3.out _) HB4.out⟩
  · have hCA := HG.out.1 hEA
    obtain ⟨ht, _, _, _, _⟩ := HGa.out.bad hEA
    subst hCA
    have hv := HV30.out
    rw [ht] at hv
    obtain ⟨ad, c, rfl⟩ := hv.len
    simp only [tokRows, List.map_nil, List.length_nil]
    have hB1 : (C.err == 0) = false := by simp [hEA]
    clear hv ht hEA
    go_wp2_with (first | (go_at_call 8; refine (awake09 m _ (HM3.out _)).mono ?_; rintro e w4 ⟨rfl, hb4⟩; have HB4 := Lib.hid hb4; clear hb4))
    go_ret
    exact ⟨rfl, bl_then (HB3.out _) HB4.out⟩

theorem walkJoins (a b : ByteArray) (m : Int) (w : World) (wa : a.size ≤ maxLen) (wb : b.size ≤ maxLen) (hm : w.cell? ⟨0, 0, none⟩ = some (.int .i64 m)) :
    Calls Try.prog 6 #[.string a, .string b] w fun e w' => e = .returned (.bool true) ∧ Below w.heap.size w w' := by
  by_cases hl : 400 < a.size ∨ 400 < b.size
  · exact walkJoins_long a b m w wa wb hl hm
  · exact walkJoins_fits a b m w (by omega) (by omega) hm
end Go.Proofs.Ytmelilppeikdiaa
