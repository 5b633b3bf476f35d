/- Contract of asm.wrong. -/
import Derived.Test.YtbcpopakdlplgaaDoorAsmN
import Derived.Test.YtbcpopakdlplgaaDoorAsmE2
namespace Go.Proofs.YtbcpopakdlplgaaDoor
open Go.RowKit Go.PlainAid Go.Maps
set_option linter.unusedVariables false
set_option linter.unusedSimpArgs false

theorem hasLab_snoc (l : List IN) (x : IN) (a : Int) : hasLab (l ++ [x]) a = (hasLab l a || (isL x && x.arg == a)) := by simp [hasLab, List.any_append]
def hasK (l : List IN) (k : Nat) : Int → Bool := fun a => hasLab (l.take k) a
theorem hasK_no {l : List IN} {k : Nat} (h : k < l.length) (hj : isL l[k] = false) (a : Int) : hasK l (k + 1) a = hasK l k a := by
  unfold hasK; rw [take_snocI l k h, hasLab_snoc, hj]; simp
theorem hasK_yes {l : List IN} {k : Nat} (h : k < l.length) (hj : isL l[k] = true) (a : Int) : hasK l (k + 1) a = if a = l[k].arg then true else hasK l k a := by
  unfold hasK; rw [take_snocI l k h, hasLab_snoc, hj]
  by_cases e : a = l[k].arg
  · subst e; simp
  · rw [if_neg e]; simp [Ne.symm e]
theorem isC2 (n : Int) (b : Bool) (hb : decide (-32768 ≤ n ∧ n ≤ 32767) = b) (w : World) : Calls Tryd.prog 32 #[.int .i64 n] w fun e w' => e = .returned (.bool b) ∧ w = w' :=
  (numIs n w).mono fun e w' ⟨h, k⟩ => ⟨by rw [h, is_eq, hb], k⟩
theorem nameY (op : Int) (h : 1 ≤ op ∧ op ≤ 38) : ∃ s : ByteArray, s.toList.isEmpty = false ∧ ∀ w : World, Calls Tryd.prog 41 #[.int .i64 op] w fun e w' => e = .returned (.string s) ∧ Below w.heap.size w w' := by
  refine ⟨mkB (nmA op), ?_, fun w => nameC op w⟩
  rw [mkB_toList]
  have : nmA op ≠ [] := fun e => ((nmA_nil op).1 e) h
  cases hx : nmA op with
  | nil => exact absurd hx this
  | cons a t => rfl
theorem nameN (op : Int) (h : ¬ (1 ≤ op ∧ op ≤ 38)) (w : World) : Calls Tryd.prog 41 #[.int .i64 op] w fun e w' => e = .returned (.string ⟨#[]⟩) ∧ Below w.heap.size w w' :=
  (nameC op w).mono fun e w' ⟨k, q⟩ => ⟨by rw [k, (nmA_nil op).2 h]; rfl, q⟩
theorem wrong_j {l0 pre t : List IN} {x : IN} (hj : isJ x = true) : wrongGo l0 pre (x :: t) = if hasLab l0 x.arg = false then 11 else wrongGo l0 (pre ++ [x]) t := by
  rw [wrongGo]
  by_cases h : hasLab l0 x.arg = false
  · rw [if_pos ⟨hj, h⟩, if_pos h]
  · rw [if_neg (fun e => h e.2), if_neg h, if_neg (by simp [isJ_L hj]), if_pos (.inr hj)]
theorem wrong_l {l0 pre t : List IN} {x : IN} (hl : isL x = true) : wrongGo l0 pre (x :: t) = if hasLab pre x.arg = true then 10 else wrongGo l0 (pre ++ [x]) t := by
  have hj : isJ x = false := by cases h : isJ x with
    | false => rfl
    | true => have := isJ_L h; rw [hl] at this; cases this
  rw [wrongGo, if_neg (by simp [hj])]
  by_cases h : hasLab pre x.arg = true
  · rw [if_pos ⟨hl, h⟩, if_pos h]
  · rw [if_neg (fun e => h e.2), if_neg h, if_pos (.inl hl)]
theorem wrong_o {l0 pre t : List IN} {x : IN} (hj : isJ x = false) (hl : isL x = false) : wrongGo l0 pre (x :: t) = if badI x = true then 16 else wrongGo l0 (pre ++ [x]) t := by
  rw [wrongGo, if_neg (by simp [hj]), if_neg (by simp [hl]), if_neg (by simp [hj, hl])]
set_option maxRecDepth 100000 in
set_option maxHeartbeats 8000000 in
theorem wrongC (v : Value) (l : List IN) (w : World) (hr : Reads Cd.ins.seq w v l) (hl : l.length ≤ 100000) :
    Calls Tryd.prog 28 #[v] w fun e w' => e = .returned (.int .i64 (wrongP l)) ∧ Below w.heap.size w w' := by
  obtain ⟨a, c, hv, hcap, _⟩ := hr.len
  subst hv
  have HC := Lib.hid (cells_of hr).1
  obtain ⟨n, hn⟩ : ∃ n, l.length = n := ⟨_, rfl⟩
  have HN := Lib.hid hn
  rw [hn] at hl hcap ⊢
  clear hr hn
  have hmm := @run_makeMap Tryd.prog
  have HM0 := Lib.hid (MetB.new w)
  go_enter Tryd.func28, Tryd.ntmps28
  go_wp2
  go_loopw [12] (fun i wr => ∃ k : Nat, i = .int .i64 k ∧ k ≤ n ∧ Hid (MetB wr w.heap.size k (hasK l k)) ∧ Hid (Below w.heap.size w wr)) (fun i _ => n - (intOf i).toNat)
  case atStart => exact ⟨0, rfl, Nat.zero_le _, Lib.hid (HM0.out.to fun _ _ => rfl), Lib.hid (bl_a (Below.refl _ _) _)⟩
  case round =>
    obtain ⟨k, rfl, hk, HM, HB⟩ := hrel
    by_cases hlt : k < n
    · have hkl : k < l.length := by rw [HN.out]; exact hlt
      obtain ⟨b, off, ha, hblt, hw, hx0, hx1⟩ := (HC.out.below HB.out) k hkl
      subst ha
      obtain ⟨x, hx⟩ : ∃ x, l[k] = x := ⟨_, rfl⟩
      rw [hx] at hw hx0 hx1
      cases hj : isL x with
      | true =>
        have hne : (x.op == 38) = true := by unfold isL at hj; simpa using hj
        have HK2 := Lib.hid (hasK_yes hkl (by rw [hx]; exact hj))
        rw [hx] at HK2
        clear hx hj
        obtain ⟨w2, hrun, hm2, hg2⟩ := (HM.out.below (bl_one wr (.cells #[.int .i64 x.op, .int .i64 x.arg] 37))).update (by unfold maxLen; omega) hw.2 true
        have HM2 : Hid (MetB w2 w.heap.size (k + 1) (hasK l (k + 1))) := Lib.hid (hm2.to fun a _ => (HK2.out a).symm)
        have HB2 : Hid (Below w.heap.size w w2) := Lib.hid ((bl_thenA HB.out (bl_one wr _)).grown hg2 (bl_thenA HB.out (bl_one wr _)).size (fun j hj => by cases hj; exact Nat.le_refl _))
        clear hm2 hg2
        go_wp2
        go_roundw
        case rel => exact ⟨k + 1, by go_num, by omega, HM2, HB2⟩
        case measure => simp [intOf]; omega
      | false =>
        have hne : (x.op == 38) = false := by unfold isL at hj; simpa using hj
        have HK2 := Lib.hid (hasK_no hkl (by rw [hx]; exact hj))
        clear hx hj
        have HM2 : Hid (MetB (wr.alloc (.cells #[.int .i64 x.op, .int .i64 x.arg] 37)) w.heap.size (k + 1) (hasK l (k + 1))) := Lib.hid (by
          obtain ⟨D, h1, h2, h3⟩ := HM.out.below (bl_one wr (.cells #[.int .i64 x.op, .int .i64 x.arg] 37))
          exact ⟨D, h1.mono (by omega), h2, fun a ha => by rw [h3 a ha, HK2.out a]⟩)
        have HB2 := Lib.hid (bl_thenA HB.out (bl_one wr (.cells #[.int .i64 x.op, .int .i64 x.arg] 37)))
        go_wp2
        go_roundw
        case rel => exact ⟨k + 1, by go_num, by omega, HM2, HB2⟩
        case measure => simp [intOf]; omega
    · have hkn : k = n := by omega
      subst hkn
      have hMA : Hid (MetB (wr.alloc (.map #[] 0)) w.heap.size k (hasLab l)) := Lib.hid ((HM.out.below (bl_a (Below.refl _ _) _)).to fun a _ => by unfold hasK; rw [← HN.out, List.take_length])
      have hMN : Hid (MetB (wr.alloc (.map #[] 0)) wr.heap.size 0 (hasK l 0)) := Lib.hid ((MetB.new wr).to fun _ _ => rfl)
      have hMB : Hid (Below w.heap.size w (wr.alloc (.map #[] 0))) := Lib.hid (bl_a HB.out _)
      have hBB := HM.out.lt
      obtain ⟨B1, hB1⟩ : ∃ B, wr.heap.size = B := ⟨_, rfl⟩
      have HB1 := Lib.hid hB1
      rw [hB1] at hBB hMN
      have hz1 : B1 + 1 ≤ (wr.alloc (.map #[] 0)).heap.size := by rw [World.size_alloc, hB1]; exact Nat.le_refl _
      go_wp2_with fail
      clear HM HB hB1
      go_loopw [26] (fun i wz => ∃ j : Nat, i = .int .i64 j ∧ j ≤ k ∧ B1 + 1 ≤ wz.heap.size ∧ Hid (MetB wz w.heap.size k (hasLab l)) ∧ Hid (MetB wz B1 j (hasK l j)) ∧ Hid (Below w.heap.size w wz) ∧ Hid (wrongGo l (l.take j) (l.drop j) = wrongP l)) (fun i _ => k - (intOf i).toNat)
      case atStart => exact ⟨0, rfl, Nat.zero_le _, hz1, hMA, hMN, hMB, Lib.hid rfl⟩
      case round =>
        obtain ⟨j, rfl, hj, hzs, HA0, HP, HW, HE⟩ := hrel
        by_cases hlt2 : j < k
        · have hjl : j < l.length := by rw [HN.out]; exact hlt2
          obtain ⟨b, off, ha, hblt, hw, hx0, hx1⟩ := (HC.out.below HW.out) j hjl
          subst ha
          have hE := HE.out
          rw [List.drop_eq_getElem_cons hjl] at hE
          have htk := take_snocI l j hjl
          have HY := Lib.hid (fun h => hasK_yes hjl h)
          have HNo := Lib.hid (fun h => hasK_no hjl h)
          obtain ⟨x, hx⟩ : ∃ x, l[j] = x := ⟨_, rfl⟩
          rw [hx] at hw hx0 hx1 hE htk HY HNo
          have HEx := Lib.hid hE
          have HTK := Lib.hid htk
          clear hx hE htk HE
          cases hJ : isJ x with
          | true =>
            have hLf := isJ_L hJ
            have hne : (x.op == 38) = false := by unfold isL at hLf; simpa using hLf
            have HA := Lib.hid (fun w => asksC2 x true hJ w)
            cases hA : hasLab l x.arg with
            | false =>
              have HF : Hid (wrongP l = 11) := Lib.hid (by rw [← HEx.out, wrong_j hJ, if_pos hA])
              clear hJ hLf
              go_wp2_with (go_at_call 23; refine (HA.out _).mono ?_; rintro e w1 ⟨rfl, hb1⟩; have HB1 := Lib.hid (bl_thenA (bl_one wr (.cells #[.int .i64 x.op, .int .i64 x.arg] 37)) hb1); have HK1 := Lib.hid ((BK.new wr [.int .i64 x.op, .int .i64 x.arg] 37).below hb1); have k10 := HK1.out.cell 0; have k11 := HK1.out.cell 1; simp only [List.getElem?_cons_zero, List.getElem?_cons_succ] at k10 k11; clear hb1; have hlk := (HA0.out.below HB1.out).look hw.2; rw [hA] at hlk)
              go_ret
              exact ⟨ret_i (by rw [HF.out]), bl_thenA HW.out HB1.out⟩
            | true =>
              have HE2 : Hid (wrongGo l (l.take (j + 1)) (l.drop (j + 1)) = wrongP l) := Lib.hid (by rw [← HEx.out, wrong_j hJ, if_neg (by simp [hA]), HTK.out])
              clear hJ
              go_wp2_with (first | (go_at_call 23; refine (HA.out _).mono ?_; rintro e w1 ⟨rfl, hb1⟩; have HB1 := Lib.hid (bl_thenA (bl_one wr (.cells #[.int .i64 x.op, .int .i64 x.arg] 37)) hb1); have HK1 := Lib.hid ((BK.new wr [.int .i64 x.op, .int .i64 x.arg] 37).below hb1); have k10 := HK1.out.cell 0; have k11 := HK1.out.cell 1; simp only [List.getElem?_cons_zero, List.getElem?_cons_succ] at k10 k11; clear hb1; have hlk := (HA0.out.below HB1.out).look hw.2; rw [hA] at hlk) | (go_at_call 23; refine (HA.out _).mono ?_; rintro e w3 ⟨rfl, hb3⟩; have HB3 := Lib.hid (bl_thenA HB1.out hb3); have HK3 := Lib.hid (HK1.out.below hb3); have k30 := HK3.out.cell 0; have k31 := HK3.out.cell 1; simp only [List.getElem?_cons_zero, List.getElem?_cons_succ] at k30 k31; clear hb3))
              go_roundw
              case rel => exact ⟨j + 1, by go_num, by omega, Nat.le_trans hzs HB3.out.size, Lib.hid (HA0.out.below HB3.out), Lib.hid (by obtain ⟨D, h1, h2, h3⟩ := HP.out.below HB3.out; exact ⟨D, h1.mono (by omega), h2, fun a ha => by rw [h3 a ha, HNo.out hLf a]⟩), Lib.hid (bl_thenA HW.out HB3.out), HE2⟩
              case measure => simp [intOf]; omega
          | false =>
            have HA := Lib.hid (fun w => asksC2 x false hJ w)
            cases hL : isL x with
            | true =>
              have hne : (x.op == 38) = true := by unfold isL at hL; simpa using hL
              have hYes := HY.out hL
              cases hQ : hasK l j x.arg with
              | true =>
                have HF : Hid (wrongP l = 10) := Lib.hid (by rw [← HEx.out, wrong_l hL, if_pos (show hasLab (l.take j) x.arg = true from hQ)])
                clear hJ hL hYes
                go_wp2_with (go_at_call 23; refine (HA.out _).mono ?_; rintro e w1 ⟨rfl, hb1⟩; have HB1 := Lib.hid (bl_thenA (bl_one wr (.cells #[.int .i64 x.op, .int .i64 x.arg] 37)) hb1); have HK1 := Lib.hid ((BK.new wr [.int .i64 x.op, .int .i64 x.arg] 37).below hb1); have k10 := HK1.out.cell 0; have k11 := HK1.out.cell 1; simp only [List.getElem?_cons_zero, List.getElem?_cons_succ] at k10 k11; clear hb1; have hlk := (HP.out.below HB1.out).look hw.2; rw [hQ] at hlk)
                go_ret
                exact ⟨ret_i (by rw [HF.out]), bl_thenA HW.out HB1.out⟩
              | false =>
                have HE2 : Hid (wrongGo l (l.take (j + 1)) (l.drop (j + 1)) = wrongP l) := Lib.hid (by rw [← HEx.out, wrong_l hL, if_neg (by show ¬ hasK l j x.arg = true; simp [hQ]), HTK.out])
                have HYes := Lib.hid hYes
                clear hJ hL hYes
                go_wp2_with (go_at_call 23; refine (HA.out _).mono ?_; rintro e w1 ⟨rfl, hb1⟩; have HB1 := Lib.hid (bl_thenA (bl_one wr (.cells #[.int .i64 x.op, .int .i64 x.arg] 37)) hb1); have HK1 := Lib.hid ((BK.new wr [.int .i64 x.op, .int .i64 x.arg] 37).below hb1); have k10 := HK1.out.cell 0; have k11 := HK1.out.cell 1; simp only [List.getElem?_cons_zero, List.getElem?_cons_succ] at k10 k11; clear hb1; have hlk := (HP.out.below HB1.out).look hw.2; rw [hQ] at hlk; obtain ⟨w6, hrun6, hm6, hg6⟩ := (HP.out.below HB1.out).update (by unfold maxLen; omega) hw.2 true; have HM6 := Lib.hid hm6; have HG6 := Lib.hid hg6; clear hm6 hg6)
                go_roundw
                case rel => exact ⟨j + 1, by go_num, by omega, Nat.le_trans hzs (Nat.le_trans HB1.out.size HG6.out.size), Lib.hid ((HA0.out.below HB1.out).kept HG6.out (by simp; omega)), Lib.hid (HM6.out.to fun a _ => (HYes.out a).symm), Lib.hid ((bl_thenA HW.out HB1.out).grown HG6.out (bl_thenA HW.out HB1.out).size (fun q hq => by cases hq; omega)), HE2⟩
                case measure => simp [intOf]; omega
            | false =>
              have hLf := hL
              have hne : (x.op == 38) = false := by unfold isL at hL; simpa using hL
              have hne' : x.op ≠ 38 := by simpa using hne
              have hwo := fun t : List IN => wrong_o (l0 := l) (pre := l.take j) (t := t) hJ hL
              by_cases c1 : 1 ≤ x.op ∧ x.op ≤ 38
              · obtain ⟨s, hs, hnm⟩ := nameY x.op c1
                have HNM := Lib.hid hnm
                clear hnm
                by_cases c2 : -32768 ≤ x.arg ∧ x.arg ≤ 32767
                · have HIS := Lib.hid (fun w => isC2 x.arg true (by simp [c2]) w)
                  cases c3 : hasA x.op with
                  | true =>
                    have HHS := Lib.hid (fun w => hasC2 x.op true c3 w)
                    have HE2 : Hid (wrongGo l (l.take (j + 1)) (l.drop (j + 1)) = wrongP l) := Lib.hid (by rw [← HEx.out, hwo, if_neg (by rw [badI_not ⟨⟨c1.1, by omega⟩, c2, fun h => by rw [c3] at h; cases h⟩]; simp), HTK.out])
                    clear hJ hL hne' hwo c3 c1 c2
                    go_wp2_with (first | (go_at_call 23; refine (HA.out _).mono ?_; rintro e w1 ⟨rfl, hb1⟩; have HB1 := Lib.hid (bl_thenA (bl_one wr (.cells #[.int .i64 x.op, .int .i64 x.arg] 37)) hb1); have HK1 := Lib.hid ((BK.new wr [.int .i64 x.op, .int .i64 x.arg] 37).below hb1); have k10 := HK1.out.cell 0; have k11 := HK1.out.cell 1; simp only [List.getElem?_cons_zero, List.getElem?_cons_succ] at k10 k11; clear hb1) | (go_at_call 23; refine (HA.out _).mono ?_; rintro e w3 ⟨rfl, hb3⟩; have HB3 := Lib.hid (bl_thenA HB1.out hb3); have HK3 := Lib.hid (HK1.out.below hb3); have k30 := HK3.out.cell 0; have k31 := HK3.out.cell 1; simp only [List.getElem?_cons_zero, List.getElem?_cons_succ] at k30 k31; clear hb3) | (go_at_call 41; refine (HNM.out _).mono ?_; rintro e w4 ⟨rfl, hb4⟩; have HB4 := Lib.hid (bl_thenA HB3.out hb4); have HK4 := Lib.hid (HK3.out.below hb4); have k40 := HK4.out.cell 0; have k41 := HK4.out.cell 1; simp only [List.getElem?_cons_zero, List.getElem?_cons_succ] at k40 k41; clear hb4) | (go_at_call 32; refine (HIS.out _).mono ?_; rintro e w' ⟨rfl, rfl⟩) | (go_at_call 42; refine (HHS.out _).mono ?_; rintro e w5 ⟨rfl, hb5⟩; have HB5 := Lib.hid (bl_thenA HB4.out hb5); have HK5 := Lib.hid (HK4.out.below hb5); have k50 := HK5.out.cell 0; have k51 := HK5.out.cell 1; simp only [List.getElem?_cons_zero, List.getElem?_cons_succ] at k50 k51; clear hb5))
                    go_roundw
                    case rel => exact ⟨j + 1, by go_num, by omega, Nat.le_trans hzs HB5.out.size, Lib.hid (HA0.out.below HB5.out), Lib.hid (by obtain ⟨D, h1, h2, h3⟩ := HP.out.below HB5.out; exact ⟨D, h1.mono (by omega), h2, fun a ha => by rw [h3 a ha, HNo.out hLf a]⟩), Lib.hid (bl_thenA HW.out HB5.out), HE2⟩
                    case measure => simp [intOf]; omega
                  | false =>
                    have HHS := Lib.hid (fun w => hasC2 x.op false c3 w)
                    by_cases c4 : x.arg = 0
                    · have HE2 : Hid (wrongGo l (l.take (j + 1)) (l.drop (j + 1)) = wrongP l) := Lib.hid (by rw [← HEx.out, hwo, if_neg (by rw [badI_not ⟨⟨c1.1, by omega⟩, c2, fun _ => c4⟩]; simp), HTK.out])
                      have h4 : (x.arg != 0) = false := by simp [c4]
                      clear hJ hL hne' hwo c3 c1 c2 c4
                      go_wp2_with (first | (go_at_call 23; refine (HA.out _).mono ?_; rintro e w1 ⟨rfl, hb1⟩; have HB1 := Lib.hid (bl_thenA (bl_one wr (.cells #[.int .i64 x.op, .int .i64 x.arg] 37)) hb1); have HK1 := Lib.hid ((BK.new wr [.int .i64 x.op, .int .i64 x.arg] 37).below hb1); have k10 := HK1.out.cell 0; have k11 := HK1.out.cell 1; simp only [List.getElem?_cons_zero, List.getElem?_cons_succ] at k10 k11; clear hb1) | (go_at_call 23; refine (HA.out _).mono ?_; rintro e w3 ⟨rfl, hb3⟩; have HB3 := Lib.hid (bl_thenA HB1.out hb3); have HK3 := Lib.hid (HK1.out.below hb3); have k30 := HK3.out.cell 0; have k31 := HK3.out.cell 1; simp only [List.getElem?_cons_zero, List.getElem?_cons_succ] at k30 k31; clear hb3) | (go_at_call 41; refine (HNM.out _).mono ?_; rintro e w4 ⟨rfl, hb4⟩; have HB4 := Lib.hid (bl_thenA HB3.out hb4); have HK4 := Lib.hid (HK3.out.below hb4); have k40 := HK4.out.cell 0; have k41 := HK4.out.cell 1; simp only [List.getElem?_cons_zero, List.getElem?_cons_succ] at k40 k41; clear hb4) | (go_at_call 32; refine (HIS.out _).mono ?_; rintro e w' ⟨rfl, rfl⟩) | (go_at_call 42; refine (HHS.out _).mono ?_; rintro e w5 ⟨rfl, hb5⟩; have HB5 := Lib.hid (bl_thenA HB4.out hb5); have HK5 := Lib.hid (HK4.out.below hb5); have k50 := HK5.out.cell 0; have k51 := HK5.out.cell 1; simp only [List.getElem?_cons_zero, List.getElem?_cons_succ] at k50 k51; clear hb5))
                      go_roundw
                      case rel => exact ⟨j + 1, by go_num, by omega, Nat.le_trans hzs HB5.out.size, Lib.hid (HA0.out.below HB5.out), Lib.hid (by obtain ⟨D, h1, h2, h3⟩ := HP.out.below HB5.out; exact ⟨D, h1.mono (by omega), h2, fun a ha => by rw [h3 a ha, HNo.out hLf a]⟩), Lib.hid (bl_thenA HW.out HB5.out), HE2⟩
                      case measure => simp [intOf]; omega
                    · have HF : Hid (wrongP l = 16) := Lib.hid (by rw [← HEx.out, hwo, if_pos (by unfold badI; simp [c3, c4])])
                      have h4 : (x.arg != 0) = true := by simp [c4]
                      clear hJ hL hne' hwo c3 c1 c2 c4
                      go_wp2_with (first | (go_at_call 23; refine (HA.out _).mono ?_; rintro e w1 ⟨rfl, hb1⟩; have HB1 := Lib.hid (bl_thenA (bl_one wr (.cells #[.int .i64 x.op, .int .i64 x.arg] 37)) hb1); have HK1 := Lib.hid ((BK.new wr [.int .i64 x.op, .int .i64 x.arg] 37).below hb1); have k10 := HK1.out.cell 0; have k11 := HK1.out.cell 1; simp only [List.getElem?_cons_zero, List.getElem?_cons_succ] at k10 k11; clear hb1) | (go_at_call 23; refine (HA.out _).mono ?_; rintro e w3 ⟨rfl, hb3⟩; have HB3 := Lib.hid (bl_thenA HB1.out hb3); have HK3 := Lib.hid (HK1.out.below hb3); have k30 := HK3.out.cell 0; have k31 := HK3.out.cell 1; simp only [List.getElem?_cons_zero, List.getElem?_cons_succ] at k30 k31; clear hb3) | (go_at_call 41; refine (HNM.out _).mono ?_; rintro e w4 ⟨rfl, hb4⟩; have HB4 := Lib.hid (bl_thenA HB3.out hb4); have HK4 := Lib.hid (HK3.out.below hb4); have k40 := HK4.out.cell 0; have k41 := HK4.out.cell 1; simp only [List.getElem?_cons_zero, List.getElem?_cons_succ] at k40 k41; clear hb4) | (go_at_call 32; refine (HIS.out _).mono ?_; rintro e w' ⟨rfl, rfl⟩) | (go_at_call 42; refine (HHS.out _).mono ?_; rintro e w5 ⟨rfl, hb5⟩; have HB5 := Lib.hid (bl_thenA HB4.out hb5); have HK5 := Lib.hid (HK4.out.below hb5); have k50 := HK5.out.cell 0; have k51 := HK5.out.cell 1; simp only [List.getElem?_cons_zero, List.getElem?_cons_succ] at k50 k51; clear hb5))
                      go_ret
                      exact ⟨ret_i (by rw [HF.out]), bl_thenA HW.out HB5.out⟩
                · have HIS := Lib.hid (fun w => isC2 x.arg false (by simp; omega) w)
                  have HF : Hid (wrongP l = 16) := Lib.hid (by rw [← HEx.out, hwo, if_pos (by unfold badI; simp; omega)])
                  clear hJ hL hne' hwo c1 c2
                  go_wp2_with (first | (go_at_call 23; refine (HA.out _).mono ?_; rintro e w1 ⟨rfl, hb1⟩; have HB1 := Lib.hid (bl_thenA (bl_one wr (.cells #[.int .i64 x.op, .int .i64 x.arg] 37)) hb1); have HK1 := Lib.hid ((BK.new wr [.int .i64 x.op, .int .i64 x.arg] 37).below hb1); have k10 := HK1.out.cell 0; have k11 := HK1.out.cell 1; simp only [List.getElem?_cons_zero, List.getElem?_cons_succ] at k10 k11; clear hb1) | (go_at_call 23; refine (HA.out _).mono ?_; rintro e w3 ⟨rfl, hb3⟩; have HB3 := Lib.hid (bl_thenA HB1.out hb3); have HK3 := Lib.hid (HK1.out.below hb3); have k30 := HK3.out.cell 0; have k31 := HK3.out.cell 1; simp only [List.getElem?_cons_zero, List.getElem?_cons_succ] at k30 k31; clear hb3) | (go_at_call 41; refine (HNM.out _).mono ?_; rintro e w4 ⟨rfl, hb4⟩; have HB4 := Lib.hid (bl_thenA HB3.out hb4); have HK4 := Lib.hid (HK3.out.below hb4); have k40 := HK4.out.cell 0; have k41 := HK4.out.cell 1; simp only [List.getElem?_cons_zero, List.getElem?_cons_succ] at k40 k41; clear hb4) | (go_at_call 32; refine (HIS.out _).mono ?_; rintro e w' ⟨rfl, rfl⟩))
                  go_ret
                  exact ⟨ret_i (by rw [HF.out]), bl_thenA HW.out HB4.out⟩
              · have HNM := Lib.hid (fun w => nameN x.op c1 w)
                have HF : Hid (wrongP l = 16) := Lib.hid (by rw [← HEx.out, hwo, if_pos (by unfold badI; simp; omega)])
                clear hJ hL hne' hwo c1
                go_wp2_with (first | (go_at_call 23; refine (HA.out _).mono ?_; rintro e w1 ⟨rfl, hb1⟩; have HB1 := Lib.hid (bl_thenA (bl_one wr (.cells #[.int .i64 x.op, .int .i64 x.arg] 37)) hb1); have HK1 := Lib.hid ((BK.new wr [.int .i64 x.op, .int .i64 x.arg] 37).below hb1); have k10 := HK1.out.cell 0; have k11 := HK1.out.cell 1; simp only [List.getElem?_cons_zero, List.getElem?_cons_succ] at k10 k11; clear hb1) | (go_at_call 23; refine (HA.out _).mono ?_; rintro e w3 ⟨rfl, hb3⟩; have HB3 := Lib.hid (bl_thenA HB1.out hb3); have HK3 := Lib.hid (HK1.out.below hb3); have k30 := HK3.out.cell 0; have k31 := HK3.out.cell 1; simp only [List.getElem?_cons_zero, List.getElem?_cons_succ] at k30 k31; clear hb3) | (go_at_call 41; refine (HNM.out _).mono ?_; rintro e w4 ⟨rfl, hb4⟩; have HB4 := Lib.hid (bl_thenA HB3.out hb4); have HK4 := Lib.hid (HK3.out.below hb4); have k40 := HK4.out.cell 0; have k41 := HK4.out.cell 1; simp only [List.getElem?_cons_zero, List.getElem?_cons_succ] at k40 k41; clear hb4))
                go_ret
                exact ⟨ret_i (by rw [HF.out]), bl_thenA HW.out HB4.out⟩
        · have hjk : j = k := by omega
          have HF : Hid (wrongP l = 0) := Lib.hid (by have := HE.out; rw [List.drop_of_length_le (by rw [HN.out]; omega)] at this; rw [← this]; rfl)
          go_wp2
          go_ret
          exact ⟨ret_i (by rw [HF.out]), HW.out⟩
end Go.Proofs.YtbcpopakdlplgaaDoor
