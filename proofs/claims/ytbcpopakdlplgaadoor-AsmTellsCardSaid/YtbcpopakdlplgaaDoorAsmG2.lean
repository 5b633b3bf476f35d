/- Contracts of clewref30.far, sizes. -/
import Derived.Test.YtbcpopakdlplgaaDoorAsmG
import Derived.Test.YtbcpopakdlplgaaDoorAsmY
import Derived.Deep.OwnRows
import Derived.Test.YtbcpopakdlplgaaDoorAsmT3
namespace Go.Proofs.YtbcpopakdlplgaaDoor
open Go.RowKit Go.PlainAid Go.Maps
set_option linter.unusedVariables false
set_option linter.unusedSimpArgs false

set_option maxRecDepth 100000 in
set_option maxHeartbeats 8000000 in
theorem farRC (v v2 : Value) (l : List IN) (S : Nat → Nat) (n k base : Nat) (w : World) (hr : Reads Cd.ins.seq w v l) (hn : l.length = n) (hl : n ≤ 1000) (hk : k < n) (hS : ∀ i, S i ≤ 2) (ho : OwN w base v2 (plL (WS l S) (n + 1))) (h0 : 0 ≤ stndGo (atI l k).arg l 0) :
    Calls Tryd.prog 38 #[v, v2, .int .i64 k] w fun e w' => e = .returned (.int .i64 (farL l S k)) ∧ ∃ q, w' = w.drewN q := by
  obtain ⟨ad, c, hv, hcap, _⟩ := hr.len
  subst hv
  have HR := Lib.hid hr
  obtain ⟨b, off, ha, hblt, hw, hx0, hx1⟩ := (cells_of hr).1 k (by omega)
  subst ha
  have hat : atI l k = l[k] := atI_get (by omega)
  have hbd := stnd_bd l[k].arg l 0
  have HST := Lib.hid (fun w h => standsC (.slice (some ⟨b, off, none⟩) l.length c) l l.length l[k].arg w h (Nat.le_refl _) (by omega))
  rw [List.take_length] at HST
  have hfe : farL l S k = (posN (WS l S) (tgtN l k) : Int) - (posN (WS l S) (k + 1) : Int) := rfl
  have htg : tgtN l k = (stndGo (atI l k).arg l 0).toNat := rfl
  rw [hat] at h0 htg
  obtain ⟨x, hx⟩ : ∃ x, l[k] = x := ⟨_, rfl⟩
  rw [hx] at hw hx0 hx1 hbd HST h0 htg
  obtain ⟨t, ht⟩ : ∃ t : Nat, stndGo x.arg l 0 = (t : Int) := ⟨(stndGo x.arg l 0).toNat, by omega⟩
  rw [ht] at HST hbd htg
  rw [hn] at HST hbd HR ⊢
  have htn : t < n := by omega
  have e1 : tgtN l k = t := by rw [htg]; omega
  rw [hfe, e1]
  have hp3 := posN_three (WS_three (l := l) hS)
  have p1 := hp3 t
  have p2 := hp3 (k + 1)
  obtain ⟨_, cv, hv2, _, _, d0⟩ := ho.at (plL_len _ _) t (by omega) (posN (WS l S) t : Int) (plL_at (by omega))
  obtain ⟨_, _, hv3, _, _, d1⟩ := ho.at (plL_len _ _) (k + 1) (by omega) (posN (WS l S) (k + 1) : Int) (plL_at (by omega))
  subst hv2
  simp at hv3
  obtain ⟨rfl, _⟩ := hv3
  obtain ⟨P, hP⟩ : ∃ P, posN (WS l S) t = P := ⟨_, rfl⟩
  obtain ⟨Q, hQ⟩ : ∃ Q, posN (WS l S) (k + 1) = Q := ⟨_, rfl⟩
  rw [hP] at d0 p1 ⊢
  rw [hQ] at d1 p2 ⊢
  have a0 : (0 : Int) ≤ (k : Int) := by omega
  have a1 : (k : Int) < (n : Int) := by omega
  have a2 : IntKind.i64.wrap ((k : Int) + 1) = (k : Int) + 1 := IntWalk.i64_in _ (by omega)
  have a3 : (0 : Int) ≤ (k : Int) + 1 := by omega
  have a4 : ((k : Int) + 1).toNat = k + 1 := by omega
  have a5 : (k : Int) + 1 < ((n + 1 : Nat) : Int) := by omega
  have a6 : (k : Int) + 1 < (n : Int) + 1 := by omega
  have a7 : (t : Int) < ((n + 1 : Nat) : Int) := by omega
  have a8 : (t : Int) < (n : Int) + 1 := by omega
  have a9 : (0 : Int) ≤ (t : Int) := by omega
  have aA : IntKind.i64.wrap ((P : Int) - (Q : Int)) = (P : Int) - (Q : Int) := IntWalk.i64_in _ (by omega)
  clear hr hn hat hx ht hbd htg e1 hfe hp3 hP hQ h0 hS ho hw p1 p2
  go_enter Tryd.func38, Tryd.ntmps38
  go_wp2_with fail
  go_quiet ((go_at_call 27; first | exact Calls.quiet_of_same ((HST.out _ HR.out).mono fun _ _ ⟨a, b⟩ => ⟨a, b.symm⟩) | exact Calls.quiet_of_same ((HST.out _ (HR.out.below (bl_drewN (Below.refl _ _) _))).mono fun _ _ ⟨a, b⟩ => ⟨a, b.symm⟩)))
  go_wp2
  go_ret
  exact ⟨rfl, nq, rfl⟩
def zR (gz n : Nat) (wx : World) : Nat := sumN (fun i => (intOf ((wx.cell? ⟨gz, i, none⟩).getD undef)).toNat) n
theorem sum_congr {f g : Nat → Nat} : ∀ n, (∀ i, i < n → f i = g i) → sumN f n = sumN g n
  | 0, _ => rfl
  | n + 1, h => by rw [sumN, sumN, sum_congr n (fun i hi => h i (by omega)), h n (by omega)]
theorem zR_is {w : World} {gz n : Nat} {S : Nat → Nat} (h : BK w gz (rowF n (fun i => (S i : Int))) 3) : zR gz n w = sumN S n := by
  unfold zR
  refine sum_congr n fun i hi => ?_
  have := h.cell i
  rw [rowF_at hi] at this
  rw [this]; simp [intOf]
def SizesOut (l : List IN) (n : Nat) (w : World) (e : Ending) (w' : World) : Prop := ∃ gz S, e = .returned (.slice (some ⟨gz, 0, none⟩) n n) ∧ BK w' gz (rowF n (fun i => (S i : Int))) 3 ∧ AsmSz l S ∧ Below w.heap.size w w' ∧ w.heap.size ≤ gz
theorem BK.setF {w : World} {g n : Nat} {f : Nat → Nat} (h : BK w g (rowF n (fun i => (f i : Int))) 3) (k v : Nat) : BK (w.setCell ⟨g, k, none⟩ (.int .i64 v)) g (rowF n (fun i => (((if i = k then v else f i : Nat)) : Int))) 3 := by
  have e : (fun i => (((if i = k then v else f i : Nat)) : Int)) = fun i => if i = k then (v : Int) else (f i : Int) := by funext i; split <;> rfl
  rw [e, ← rowF_set]; exact h.set k _
def bitV : Value → Nat
  | .bool true => 1
  | _ => 0
set_option maxRecDepth 100000 in
set_option maxHeartbeats 8000000 in
theorem sizesRC (v : Value) (l : List IN) (n : Nat) (w : World) (hr : Reads Cd.ins.seq w v l) (hn : l.length = n) (hl : n ≤ 1000) (hO : ∀ k, k < n → isJ (atI l k) = true → 0 ≤ stndGo (atI l k).arg l 0) :
    Calls Tryd.prog 34 #[v] w (SizesOut l n w) := by
  obtain ⟨ad, c, hv, hcap, _⟩ := hr.len
  subst hv
  rw [hn] at hcap hr ⊢
  have HR := Lib.hid hr
  have HC := Lib.hid (cells_of hr).1
  have HN := Lib.hid hn
  have HO := Lib.hid hO
  have hmk := fun w => run_make_row' (P := Tryd.prog) 50 3 (.int .i64 0) 8 Tryd.underlying50 Tryd.infoInt rfl .i64 .i64 n (by omega) (by omega) w
  rw [made_rowT] at hmk
  obtain ⟨gz, hgz⟩ : ∃ gz, w.heap.size = gz := ⟨_, rfl⟩
  have HGZ := Lib.hid hgz
  have HZ0 : Hid (BK (w.alloc (.cells (rowF n (fun _ => 0)).toArray 3)) gz (rowF n (fun i => (((fun _ => 0 : Nat → Nat) i : Nat) : Int))) 3) := Lib.hid (by rw [← hgz]; exact BK.new w _ _)
  have HB0 : Hid (Below gz w (w.alloc (.cells (rowF n (fun _ => 0)).toArray 3))) := Lib.hid (by rw [← hgz]; exact bl_one w _)
  clear hr hn hO hgz
  go_enter Tryd.func34, Tryd.ntmps34
  go_wp2_with fail
  rw [HGZ.out]
  go_loopw [4] (fun a wx => ∃ (S : Nat → Nat) (gb : Bool), a = .bool gb ∧ Hid (BK wx gz (rowF n (fun i => (S i : Int))) 3) ∧ Hid (AsmWay l S) ∧ Hid (gb = false → AsmSz l S) ∧ Hid (Below gz w wx)) (fun a wx => 2 * (2 * n - zR gz n wx) + bitV a)
  case atStart => exact ⟨fun _ => 0, true, rfl, HZ0, Lib.hid (way_zero l), Lib.hid (fun h => by cases h), HB0⟩
  case round =>
    obtain ⟨S, gb, rfl, HZ, HY, HE, HB⟩ := hrel
    cases gb with
    | false =>
      go_wp2
      go_ret
      exact ⟨gz, S, rfl, HZ.out, HE.out (by trivial), by rw [HGZ.out]; exact HB.out, by rw [HGZ.out]; exact Nat.le_refl _⟩
    | true =>
      have hm0 := way_measure HY.out
      rw [HN.out] at hm0
      have hz0 := zR_is HZ.out
      rw [hz0]
      have HT : Hid (Tight encN (atI l) (tgtN l) S) := Lib.hid HY.out.tight
      obtain ⟨W0, hW0⟩ : ∃ W0 : World, W0 = wr := ⟨_, rfl⟩
      subst hW0
      clear hz0
      go_wp2_with fail
      go_loopw [4, 5] (fun a i wx => ∃ (k : Nat) (gb : Bool), i = .int .i64 k ∧ k ≤ n ∧ a = .bool gb ∧ Hid (GrowOut l S (swK l S k) gb) ∧ Hid (BK wx gz (rowF n (fun i => (swK l S k i : Int))) 3) ∧ Hid (Below gz w wx)) (fun _ i _ => n - (intOf i).toNat)
      case atStart => exact ⟨0, false, rfl, Nat.zero_le _, rfl, Lib.hid ⟨fun _ => rfl, fun h => by cases h⟩, HZ, HB⟩
      case round =>
        obtain ⟨k, gb, rfl, hk, rfl, HG, HZk, HBk⟩ := hrel
        by_cases hlt : k < n
        · have hkl : k < l.length := by rw [HN.out]; exact hlt
          obtain ⟨b, off, ha, hblt, hw, hx0, hx1⟩ := HC.out k hkl
          subst ha
          rw [HGZ.out] at hblt
          have hat : atI l k = l[k] := atI_get hkl
          obtain ⟨x, hx⟩ : ∃ x, l[k] = x := ⟨_, rfl⟩
          rw [hx] at hw hx0 hx1 hat
          have HAT := Lib.hid hat
          have x0 := (HBk.out.cell (p := ⟨b, off + k * 2, none⟩) hblt).trans hx0
          have x1 := (HBk.out.cell (p := ⟨b, off + k * 2 + 1, none⟩) hblt).trans hx1
          have hk0 : (0 : Int) ≤ (k : Int) := by omega
          have hk1 : (k : Int) < (n : Int) := by omega
          have hzz : gz ≤ wr.heap.size := Nat.le_of_lt HZk.out.lt
          have hgzlt := HZk.out.lt
          have HNo := Lib.hid (swK_no (l := l) (S := S) (k := k))
          have HYes := Lib.hid (swK_yes (l := l) (S := S) (k := k))
          have HGr := Lib.hid (swK_grew (l := l) (S := S) (k := k))
          have hs2 := swK_two HT.out k
          have hfit := fitR_far (l := l) (S := swK l S k) hs2 (by have := HN.out; omega) k hkl
          have hwant : wantN encN (atI l) (tgtN l) (swK l S k) k = needN (farL l (swK l S k) k) := rfl
          obtain ⟨SK, hSK⟩ : ∃ SK, swK l S k = SK := ⟨_, rfl⟩
          rw [hSK] at HNo HYes HGr HG HZk hs2 hfit hwant
          rw [HAT.out, hwant] at HNo HYes HGr
          clear hSK hat hx hx0 hx1
          cases hj : isJ x with
          | false =>
            have HJ := Lib.hid (fun w => jumpsC2 x false hj w)
            have HSW := Lib.hid (HNo.out (fun h => by rw [hj] at h; cases h.1))
            clear hj hs2 hfit hwant
            go_wp2_with (first | (go_at_call 26; refine (HJ.out _).mono ?_; rintro e w1 ⟨rfl, hb1⟩; have HB1 : Hid (Below gz w w1) := Lib.hid (HBk.out.trans (hb1.mono hzz)); have HZ1 := Lib.hid (HZk.out.below hb1); clear hb1) | (fail))
            go_roundw
            case rel => exact ⟨k + 1, gb, by go_num, by omega, rfl, Lib.hid (by rw [HSW.out]; exact HG.out), Lib.hid (by rw [HSW.out]; exact HZ1.out), HB1⟩
            case measure => simp [intOf]; omega
          | true =>
            have HJ := Lib.hid (fun w => jumpsC2 x true hj w)
            have h0 := HO.out k hlt (by rw [HAT.out]; exact hj)
            have HP := Lib.hid (fun (w' : World) (hb : Below gz w w') (hz : BK w' gz (rowF n (fun i => (SK i : Int))) 3) => placesC (.slice (some ⟨b, off, none⟩) n c) l SK n gz w' (HR.out.below (by rw [HGZ.out]; exact hb)) HN.out hl hs2 hz)
            have HF := Lib.hid (fun (w' : World) (v2 : Value) (base : Nat) (hb : Below gz w w') (ho : OwN w' base v2 (plL (WS l SK) (n + 1))) => farRC (.slice (some ⟨b, off, none⟩) n c) v2 l SK n k base w' (HR.out.below (by rw [HGZ.out]; exact hb)) HN.out hl hlt hs2 ho h0)
            have hsk := hs2 k
            obtain ⟨D, hD⟩ : ∃ D, farL l SK k = D := ⟨_, rfl⟩
            rw [hD] at HF HNo HYes HGr hfit
            have HFI := Lib.hid (fun w' => fitsC D w')
            rw [hfit] at HFI
            have hM2 := needN_le D
            obtain ⟨M, hM⟩ : ∃ M, needN D = M := ⟨_, rfl⟩
            rw [hM] at HNo HYes HGr HFI hM2
            clear hD hM hfit hwant h0 hs2
            by_cases hgr : SK k < M
            · have HSW := Lib.hid (HYes.out ⟨hj, hgr⟩)
              have HNE := Lib.hid (HGr.out ⟨hj, hgr⟩)
              have hgx : (SK k : Int) < (M : Int) := by omega
              clear hj hgr
              obtain ⟨X, hX⟩ : ∃ X, SK k = X := ⟨_, rfl⟩
              rw [hX] at hgx hsk
              have HX := Lib.hid hX
              clear hX
              go_wp2_with (first | (go_at_call 26; refine (HJ.out _).mono ?_; rintro e w1 ⟨rfl, hb1⟩; have HB1 : Hid (Below gz w w1) := Lib.hid (HBk.out.trans (hb1.mono hzz)); have HZ1 := Lib.hid (HZk.out.below hb1); clear hb1) | (go_at_call 35; refine (HP.out _ HB1.out HZ1.out).mono ?_; rintro e w2 ⟨v2, rfl, ho2, hb2⟩; have HO2 := Lib.hid ho2; have HB2 : Hid (Below gz w w2) := Lib.hid (HB1.out.trans (hb2.mono (Nat.le_of_lt HZ1.out.lt))); have HZ2 := Lib.hid (HZ1.out.below hb2); clear ho2 hb2) | (go_at_call 38; refine (HF.out _ _ _ HB2.out HO2.out).mono ?_; rintro e w3 ⟨rfl, q, rfl⟩; have HB3 := Lib.hid (bl_drewN HB2.out q); have HZ3 := Lib.hid (HZ2.out.drewN q)) | (go_at_call 54; refine (HFI.out _).mono ?_; rintro e w4 ⟨rfl, hb4⟩; have HB4 : Hid (Below gz w w4) := Lib.hid (HB3.out.trans (hb4.mono (Nat.le_of_lt HZ3.out.lt))); have HZ4 := Lib.hid (HZ3.out.below hb4); have z0 := HZ4.out.cell k; rw [rowF_at hlt, HX.out] at z0; have z1 := HZ4.out.fr k; clear hb4) | (fail))
              have HZ5 := HZ4.out.setF k M
              have hfun : (fun i => (((if i = k then M else SK i : Nat)) : Int)) = fun i => (swK l S (k + 1) i : Int) := by rw [HSW.out]
              rw [hfun] at HZ5
              clear hfun
              go_roundw
              case rel => exact ⟨k + 1, true, by go_num, by omega, rfl, Lib.hid ⟨fun h => (by cases h), fun _ => HNE.out⟩, Lib.hid HZ5, Lib.hid (HB4.out.setCell (Nat.le_refl _) _)⟩
              case measure => simp [intOf]; omega
            · have HSW := Lib.hid (HNo.out (fun h => hgr h.2))
              have hgx : (M : Int) ≤ (SK k : Int) := by omega
              clear hj hgr
              obtain ⟨X, hX⟩ : ∃ X, SK k = X := ⟨_, rfl⟩
              rw [hX] at hgx hsk
              have HX := Lib.hid hX
              clear hX
              go_wp2_with (first | (go_at_call 26; refine (HJ.out _).mono ?_; rintro e w1 ⟨rfl, hb1⟩; have HB1 : Hid (Below gz w w1) := Lib.hid (HBk.out.trans (hb1.mono hzz)); have HZ1 := Lib.hid (HZk.out.below hb1); clear hb1) | (go_at_call 35; refine (HP.out _ HB1.out HZ1.out).mono ?_; rintro e w2 ⟨v2, rfl, ho2, hb2⟩; have HO2 := Lib.hid ho2; have HB2 : Hid (Below gz w w2) := Lib.hid (HB1.out.trans (hb2.mono (Nat.le_of_lt HZ1.out.lt))); have HZ2 := Lib.hid (HZ1.out.below hb2); clear ho2 hb2) | (go_at_call 38; refine (HF.out _ _ _ HB2.out HO2.out).mono ?_; rintro e w3 ⟨rfl, q, rfl⟩; have HB3 := Lib.hid (bl_drewN HB2.out q); have HZ3 := Lib.hid (HZ2.out.drewN q)) | (go_at_call 54; refine (HFI.out _).mono ?_; rintro e w4 ⟨rfl, hb4⟩; have HB4 : Hid (Below gz w w4) := Lib.hid (HB3.out.trans (hb4.mono (Nat.le_of_lt HZ3.out.lt))); have HZ4 := Lib.hid (HZ3.out.below hb4); have z0 := HZ4.out.cell k; rw [rowF_at hlt, HX.out] at z0; have z1 := HZ4.out.fr k; clear hb4) | (fail))
              go_roundw
              case rel => exact ⟨k + 1, gb, by go_num, by omega, rfl, Lib.hid (by rw [HSW.out]; exact HG.out), Lib.hid (by rw [HSW.out]; exact HZ4.out), HB4⟩
              case measure => simp [intOf]; omega
        · have hkn : k = n := by omega
          subst hkn
          have hsn : swK l S k = sweepL l S := by unfold swK sweepL; rw [HN.out]; rfl
          rw [hsn] at HG HZk
          have hsn2 := HN.out
          have HW2 := Lib.hid (way_sweep HY.out)
          have hz9 := zR_is HZk.out
          have hm9 := way_measure HW2.out
          rw [hsn2] at hm9
          cases gb with
          | false =>
            have hE := HG.out.1 rfl
            rw [hE] at HZk hz9
            have HE2 : Hid (AsmSz l S) := Lib.hid (way_end HY.out hE)
            clear hE hsn hsn2
            go_wp2
            go_roundw
            case rel => exact ⟨S, false, rfl, HZk, HY, Lib.hid (fun _ => HE2.out), HBk⟩
            case measure => simp only [bitV]; rw [hz9]; omega
          | true =>
            have hlt9 := sweep_lt (HG.out.2 rfl)
            rw [hsn2] at hlt9
            clear hsn hsn2
            go_wp2
            go_roundw
            case rel => exact ⟨sweepL l S, true, rfl, HZk, HW2, Lib.hid (fun h => by cases h), HBk⟩
            case measure => simp only [bitV]; rw [hz9]; omega
end Go.Proofs.YtbcpopakdlplgaaDoor
