/- The walk of the law LexBack: it answers true. -/
import Derived.Test.YtmelilppeikdiaaDoorLaw09f
import Derived.BigQuiet
import Derived.Deep.QuietTactic
namespace Go.Proofs.YtmelilppeikdiaaDoor
open Go.RowKit Go.PlainAid
set_option linter.unusedVariables false
set_option linter.unusedSimpArgs false

theorem read_text {T : TK} (h : Read T) : T.text.length ≤ T.len ∧ 0 ≤ T.num ∧ T.num ≤ 32767 := by
  obtain ⟨l, hl, rfl, he⟩ := h.ex
  obtain ⟨b, t, rfl⟩ : ∃ b t, l = b :: t := by
    cases l with
    | nil => exact absurd rfl hl
    | cons b t => exact ⟨b, t, rfl⟩
  unfold oneL at he ⊢
  by_cases h1 : hd (b :: t) = 34
  · rw [if_pos h1] at he ⊢
    obtain ⟨c, e1, e2, e3, e4⟩ := text_raw _ _ _ he
    rw [e1]
    have := (qL_len c).1
    exact ⟨by simp; omega, Int.le_refl _, (show (0 : Int) ≤ 32767 by decide)⟩
  rw [if_neg h1] at he ⊢
  by_cases h2 : digitB (hd (b :: t)) = true
  · rw [if_pos h2] at he ⊢
    unfold numT at he ⊢
    split
    · rename_i hc; rw [if_pos hc] at he; simp at he
    · have := numN_bd (mkB ((b :: t).take (runL digitB (b :: t)))) 32767 (by decide)
      exact ⟨Nat.zero_le _, this.1, this.2⟩
  rw [if_neg h2] at he ⊢
  by_cases h3 : smallB (hd (b :: t)) = true
  · rw [if_pos h3] at he ⊢
    have hle := runL_le cName (b :: t)
    unfold wordT at he ⊢
    have ht : ((b :: t).take (runL cName (b :: t))).length ≤ runL cName (b :: t) := by rw [List.length_take]; omega
    split
    · exact ⟨ht, Int.le_refl _, (show (0 : Int) ≤ 32767 by decide)⟩
    · split
      · exact ⟨ht, Int.le_refl _, (show (0 : Int) ≤ 32767 by decide)⟩
      · exact ⟨ht, Int.le_refl _, (show (0 : Int) ≤ 32767 by decide)⟩
  rw [if_neg h3] at he ⊢
  unfold signT at he ⊢
  split
  · rename_i hc; rw [if_pos hc] at he; simp at he
  · exact ⟨by show ((b :: t).take (signL (b :: t))).length ≤ signL (b :: t); rw [List.length_take]; omega, Int.le_refl _, (show (0 : Int) ≤ 32767 by decide)⟩
theorem len_le_sum : ∀ (L : List TT) (x : TT), x ∈ L → x.t.len ≤ lenSum L
  | [], x, h => by cases h
  | y :: t, x, h => by
    rw [lenSum]
    rcases List.mem_cons.1 h with e | e
    · rw [e]; omega
    · have := len_le_sum t x e; omega
theorem join_prL : ∀ Ts : List TK, Lib.join (Ts.map prT) [32] = prL Ts
  | [] => rfl
  | T :: Ts => by
    rw [pr_cons, List.map_cons, Lib.join_cons]
    congr 1
    cases Ts with
    | nil => rfl
    | cons U Us =>
      show _ = 32 :: prL (U :: Us)
      rw [← join_prL (U :: Us), List.map_cons, Lib.join_cons]
      unfold Lib.joinTail; simp
/-- All that is known of what is read, printed and read again. -/
theorem back_facts (s : ByteArray) (hs : s.size ≤ 600) (he : (allR s).err = 0) :
    (allR s).toks.length ≤ 1000 ∧ (∀ x ∈ (allR s).toks, x.t.text.length ≤ 1024 ∧ -9223372036854775808 ≤ x.t.num ∧ x.t.num ≤ 9223372036854775807) ∧
    (mkB (Lib.join (partsP (allR s).toks) [32])).size ≤ 65536 ∧ (allR (mkB (Lib.join (partsP (allR s).toks) [32]))).err = 0 ∧ (allR (mkB (Lib.join (partsP (allR s).toks) [32]))).fl = 0 ∧ (allR (mkB (Lib.join (partsP (allR s).toks) [32]))).fc = 0 ∧
    (allR (mkB (Lib.join (partsP (allR s).toks) [32]))).toks.map (·.t) = (allR s).toks.map (·.t) := by
  have rs : allR s = allA s (s.size + 1) 0 [] := by unfold allR; rw [if_neg (by omega)]
  have hA := all_read s (s.size + 1) 0 [] (by omega) (by omega) (fun x hx => by cases hx) (by simp [lenSum])
  rw [← rs] at hA
  obtain ⟨out, e, h1, h2, h3, h4⟩ := hA he
  have hpl := pr_len out h3
  have hk : ∀ x ∈ out, x.t.kind ≠ 0 := fun x hx => by
    obtain ⟨l, hl, hT, hoe⟩ := (h3 x hx).ex
    rw [hT]; exact oneL_kind l hoe
  have hparts : partsP (allR s).toks = (out.map (·.t)).map prT := by
    rw [h1, take_kind (out ++ [e]) out.length (fun i hi hik => by rw [List.getElem_append_left hik]; exact hk _ (List.getElem_mem _)) (.inr ⟨by simp, by simp [h2, endT]⟩)]
    simp
  rw [hparts, join_prL]
  have hb := back_all s (mkB (prL (out.map (·.t)))) (by omega) he out ⟨e, h1, h2⟩ (mkB_data _)
  refine ⟨by rw [h1]; simp; omega, fun x hx => ?_, hb.1, hb.2.1, hb.2.2.1, hb.2.2.2.1, hb.2.2.2.2⟩
  rw [h1] at hx
  rcases List.mem_append.1 hx with hx | hx
  · have a := read_text (h3 x hx)
    have b := len_le_sum out x hx
    exact ⟨by omega, by omega, by omega⟩
  · rw [List.mem_singleton.1 hx, h2]; exact ⟨by decide, by decide, by decide⟩

set_option maxRecDepth 100000 in
set_option maxHeartbeats 8000000 in
theorem walkBack (s : ByteArray) (m : Int) (w : World) (ws : s.size ≤ maxLen) (hm : w.cell? ⟨0, 0, none⟩ = some (.int .i64 m))
    (htab : Lib.TabIs Tryd.prog w "internal/strconv.uint64pow10" .u64 Lib.pow10Tab) :
    Calls Tryd.prog 4 #[.string s] w fun e w' => e = .returned (.bool true) ∧ Below w.heap.size w w' := by
  unfold maxLen at ws
  have HM := Lib.hid hm
  have HTab := Lib.hid htab
  clear hm htab
  by_cases hl : 600 < s.size
  · go_enter Tryd.func4, Tryd.ntmps4
    go_wp2_with (go_at_call 5; refine (awake09 m _ HM.out).mono ?_; rintro e w3 ⟨rfl, hb3⟩)
    go_ret
    exact ⟨rfl, hb3⟩
  · have hA := Lib.hid (fun w h => lexAll_fits s m w (by omega) h)
    have hG := Lib.hid (allR_good s (by omega))
    have hF := Lib.hid (back_facts s (by omega))
    generalize allR s = A at hA hG hF
    go_enter Tryd.func4, Tryd.ntmps4
    go_wp2_with fail
    refine (hA.out _ HM.out).mono ?_
    rintro e w1 ⟨v1, rfl, hv1, hb1⟩
    have HB1 := Lib.hid (fun o => bl_a hb1 o)
    have HM1 := Lib.hid (fun o => hm_below HM.out (HB1.out o))
    have HV1 := Lib.hid hv1
    have Hb1 := Lib.hid hb1
    clear hb1 hv1
    by_cases hE : A.err = 0
    · obtain ⟨z1, z2⟩ := hG.out.zero hE
      obtain ⟨f1, f2, f3, f4, f5, f6, f7⟩ := hF.out hE
      have HP := Lib.hid (fun v w h1 h2 => lexPrint v A.toks w h1 f1 f2 h2)
      obtain ⟨S, hS⟩ : ∃ S, mkB (Lib.join (partsP A.toks) [32]) = S := ⟨_, rfl⟩
      rw [hS] at f3 f4 f5 f6 f7 HP
      have HA2 := Lib.hid (fun w h => lexAll_fits S m w f3 h)
      generalize allR S = A2 at f4 f5 f6 f7 HA2
      have HL := Lib.hid f7
      have hS0 := HV1.out
      obtain ⟨L, hLe⟩ : ∃ L, A.toks = L := ⟨_, rfl⟩
      obtain ⟨L2, hLe2⟩ : ∃ L2, A2.toks = L2 := ⟨_, rfl⟩
      rw [hLe] at hS0 HP HL f1
      rw [hLe2] at HA2 HL
      have hlen2 : L2.length = L.length := by have := congrArg List.length HL.out; simpa using this
      have hrl : (tokRows L).length = L.length := by simp [tokRows]
      have hrl2 : (tokRows L2).length = L.length := by simp [tokRows, hlen2]
      obtain ⟨a0, c0, hv0⟩ := hS0.len
      rw [hrl] at hv0
      subst hv0
      have HS0 := Lib.hid (fun o => hS0.below (one_alloc w1 o))
      rw [hE, z1, z2]
      rw [f4, f5, f6] at HA2
      clear hS0 hLe hLe2 hS f2 f3 f4 f5 f6 f7 hE z1 z2
      go_wp2_with fail
      refine (HP.out _ _ (HS0.out _) (tab_belowP HTab.out (HB1.out _))).mono ?_
      rintro e w2 ⟨rfl, hb2⟩
      have HB2 : Hid (Below w.heap.size w w2) := Lib.hid (bl_then (HB1.out _) hb2)
      have HS2 := Lib.hid ((HS0.out _).below hb2)
      have HK2 := Lib.hid ((BK.new w1 [.int .i64 0, .int .i64 0, .int .i64 0] 31).below hb2)
      clear hb2
      go_wp2_with fail
      refine (HA2.out _ (hm_below HM.out HB2.out)).mono ?_
      rintro e w3 ⟨v3, rfl, hv3, hb3⟩
      have HB3 := Lib.hid (fun o => bl_a (bl_then HB2.out hb3) o)
      have HS3 := Lib.hid (fun o => ((HS2.out).below hb3).below (one_alloc w3 o))
      have HV3 := Lib.hid (fun o => hv3.below (one_alloc w3 o))
      obtain ⟨a3, c3, hv3e⟩ := hv3.len
      rw [hrl2] at hv3e
      subst hv3e
      clear hb3 hv3
      go_wp2_with fail
      obtain ⟨W, hW⟩ : ∃ W, w3.alloc (.cells #[.int .i64 0, .int .i64 0, .int .i64 0] 31) = W := ⟨_, rfl⟩
      have HBW := Lib.hid (HB3.out (.cells #[.int .i64 0, .int .i64 0, .int .i64 0] 31))
      have HSW := Lib.hid (HS3.out (.cells #[.int .i64 0, .int .i64 0, .int .i64 0] 31))
      have HVW := Lib.hid (HV3.out (.cells #[.int .i64 0, .int .i64 0, .int .i64 0] 31))
      rw [hW] at HBW HSW HVW ⊢
      clear hW
      go_loopw [45] (fun p wr => ∃ k : Nat, k ≤ L.length ∧ p = .int .i64 k ∧ Hid (Below W.heap.size W wr)) (fun p _ => L.length - (intOf p).toNat)
      case atStart => exact ⟨0, by omega, rfl, Lib.hid (Below.refl _ _)⟩
      case round =>
        obtain ⟨k, hk, rfl, hB⟩ := hrel
        by_cases hkn : k < L.length
        · have hr : k < (tokRows L).length := by rw [hrl]; exact hkn
          have hr2 : k < (tokRows L2).length := by rw [hrl2]; exact hkn
          have hk2 : k < L2.length := by rw [hlen2]; exact hkn
          obtain ⟨b, off, c, hv1', hblt, hcell⟩ := HSW.out.open (by omega)
          obtain ⟨b2, off2, c2, hv2', hblt2, hcell2⟩ := HVW.out.open (by omega)
          have hac : a0 = some ⟨b, off, none⟩ := by simp at hv1'; exact hv1'.1
          have hac2 : a3 = some ⟨b2, off2, none⟩ := by simp at hv2'; exact hv2'.1
          subst hac
          subst hac2
          have hx : (tokRows L)[k] = tokCells L[k] := by simp [tokRows]
          have hy : (tokRows L2)[k] = tokCells L2[k] := by simp [tokRows]
          have hxy : (L2[k]).t = (L[k]).t := by
            have h1 : (L2.map (·.t))[k]'(by simpa using hk2) = (L.map (·.t))[k]'(by simpa using hkn) := by simp only [HL.out]
            simpa using h1
          have a0' : ∀ j, j < 5 → wr.cell? ⟨b, off + k * 5 + j, none⟩ = (tokCells L[k])[j]? := fun j hj => by
            rw [← hx]; exact (hB.out.cell (p := ⟨b, off + k * 5 + j, none⟩) hblt).trans (hcell k j hr hj)
          have e0 := a0' 0 (by decide)
          have e1 := a0' 1 (by decide)
          have e2 := a0' 2 (by decide)
          have e3 := a0' 3 (by decide)
          have e4 := a0' 4 (by decide)
          clear a0'
          have hlt2 : b2 < wr.heap.size := Nat.lt_of_lt_of_le hblt2 hB.out.size
          have b0' : ∀ o j, j < 5 → (wr.alloc o).cell? ⟨b2, off2 + k * 5 + j, none⟩ = (tokCells L2[k])[j]? := fun o j hj => by
            rw [(one_alloc wr o).cell (p := ⟨b2, off2 + k * 5 + j, none⟩) hlt2, ← hy]; exact (hB.out.cell (p := ⟨b2, off2 + k * 5 + j, none⟩) hblt2).trans (hcell2 k j hr2 hj)
          generalize L[k] = x at e0 e1 e2 e3 e4 hxy
          generalize L2[k] = y at b0' hxy
          simp [tokCells] at e0 e1 e2 e3 e4
          obtain ⟨W2, hW2⟩ : ∃ W2, wr.alloc (.cells #[.int .i64 x.t.kind, .string (mkB x.t.text), .int .i64 x.t.num, .int .i64 x.l, .int .i64 x.c] 25) = W2 := ⟨_, rfl⟩
          have HT : Hid (BK W2 wr.heap.size (tokCells x) 25) := Lib.hid (by rw [← hW2]; exact BK.new wr (tokCells x) 25)
          have HBW2 : Hid (Below wr.heap.size wr W2) := Lib.hid (by rw [← hW2]; exact one_alloc _ _)
          have t0 : W2.cell? ⟨wr.heap.size, 0, none⟩ = some (.int .i64 x.t.kind) := HT.out.cell 0
          have t1 : W2.cell? ⟨wr.heap.size, 1, none⟩ = some (.string (mkB x.t.text)) := HT.out.cell 1
          have t2 : W2.cell? ⟨wr.heap.size, 2, none⟩ = some (.int .i64 x.t.num) := HT.out.cell 2
          have b0 := b0' (.cells #[.int .i64 x.t.kind, .string (mkB x.t.text), .int .i64 x.t.num, .int .i64 x.l, .int .i64 x.c] 25) 0 (by decide)
          have b1 := b0' (.cells #[.int .i64 x.t.kind, .string (mkB x.t.text), .int .i64 x.t.num, .int .i64 x.l, .int .i64 x.c] 25) 1 (by decide)
          have b2' := b0' (.cells #[.int .i64 x.t.kind, .string (mkB x.t.text), .int .i64 x.t.num, .int .i64 x.l, .int .i64 x.c] 25) 2 (by decide)
          rw [hW2] at b0 b1 b2'
          simp [tokCells, hxy] at b0 b1 b2'
          have HWE := Lib.hid hW2
          have hki : (k : Int) < (L.length : Int) := by omega
          have hk00 : (0 : Int) ≤ (k : Int) := by omega
          clear hW2 hx hy hxy b0' hcell hcell2 hv1' hv2' hr hr2
          go_wp2_with fail
          rw [HWE.out]
          go_quiet (fail)
          go_wp2
          go_roundw
          case rel => exact ⟨k + 1, hkn, by go_num, Lib.hid (bl_drewN (hB.out.trans (HBW2.out.mono hB.out.size)) _)⟩
          case measure => simp [intOf]; omega
        · have HBf : Hid (Below w.heap.size w wr) := Lib.hid (HBW.out.trans (hB.out.mono HBW.out.size))
          go_wp2_with (go_at_call 5; refine (awake09 m _ (hm_below HM.out HBf.out)).mono ?_; rintro e w4 ⟨rfl, hb4⟩)
          go_ret
          exact ⟨rfl, HBf.out.trans (hb4.mono HBf.out.size)⟩
    · obtain ⟨ht, _, _, _, _⟩ := hG.out.bad hE
      have hv := HV1.out
      rw [ht] at hv
      obtain ⟨ad, c, rfl⟩ := hv.len
      simp only [tokRows, List.map_nil, List.length_nil]
      have hB1 : (A.err == 0) = false := by simp [hE]
      clear hv ht hE
      go_wp2_with (first
        | (go_at_call 5; refine (awake09 m _ (HM1.out _)).mono ?_; rintro e w4 ⟨rfl, hb4⟩; have HB4 := Lib.hid hb4; clear hb4))
      go_ret
      exact ⟨rfl, bl_then (HB1.out _) HB4.out⟩
end Go.Proofs.YtmelilppeikdiaaDoor
