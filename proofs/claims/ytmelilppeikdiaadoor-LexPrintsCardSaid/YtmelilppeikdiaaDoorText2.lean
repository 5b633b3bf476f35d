/- The reader's text: the walk. -/
import Derived.Test.YtmelilppeikdiaaDoorText
namespace Go.Proofs.YtmelilppeikdiaaDoor
open Go.RowKit Go.PlainAid
set_option linter.unusedVariables false
set_option linter.unusedSimpArgs false

theorem lexIx3 (c n : Int) (w : World) (h : ixC [110, 34, 92] c = n) : Calls Tryd.prog 43 #[.string ⟨#[110, 34, 92]⟩, .int .u8 c] w fun e w' => e = .returned (.int .i64 n) ∧ w' = w := h ▸ Tryd.strings_IndexByte _ c w
theorem ix3F : ∀ n : Fin 256, (¬ (n.val = 110 ∨ n.val = 34 ∨ n.val = 92)) → Lib.indexByte [110, 34, 92] n.val.toUInt8 = -1 := by decide +kernel
theorem ix3 {c : Int} (h : 0 ≤ c ∧ c ≤ 255) (hc : ¬ (c = 110 ∨ c = 34 ∨ c = 92)) : ixC [110, 34, 92] c = -1 := by
  have := ix3F ⟨c.toNat, by omega⟩
  unfold ixC
  exact this (by simp only; omega)

set_option maxRecDepth 100000 in
set_option maxHeartbeats 4000000 in
theorem lexText (R : Nat) (s : ByteArray) (i : Nat) (w : World) (h : RD w R s i 0 0 0) (hlt : i < s.size) :
    Calls Tryd.prog 34 #[.pointer (some ⟨R, 0, none⟩)] w fun e' w' => ∃ v e, e' = .returned (.tuple #[v, .int .i64 e]) ∧ TokP w' R s i (textL (sfx s (i + 1)) [] 1) v e ∧ w.grownBy w' (some R) := by
  have hblk := h.blk
  have hlim := h.lim
  obtain ⟨i0, hi, hz0, hz1, hz2⟩ := info_parts Tryd.infoB
  have HR := Lib.hid (h.below (one_alloc w (.cells #[.int .i64 0, .string ⟨#[]⟩, .int .i64 0, .int .i64 0, .int .i64 0] 25)))
  have HRow0 := Lib.hid (Row5.new w (.int .i64 0) (.string ⟨#[]⟩) (.int .i64 0) (.int .i64 0) (.int .i64 0) 25)
  have HG0 := Lib.hid (World.grownBy_alloc w (.cells #[.int .i64 0, .string ⟨#[]⟩, .int .i64 0, .int .i64 0, .int .i64 0] 25) (some R))
  clear h
  obtain ⟨T, hT⟩ : ∃ T, textL (sfx s (i + 1)) [] 1 = T := ⟨_, rfl⟩
  rw [hT]
  have HT := Lib.hid hT
  clear hT
  go_enter Tryd.func34, Tryd.ntmps34
  go_wp2_with fail
  refine (lexStep R s i 0 0 0 _ HR.out hlt).mono ?_
  rintro e' w1 ⟨rfl, hR1, hG1⟩
  have HS : Hid (Tx4 w w1 R s (i + 1) (.slice none 0 0) []) := Lib.hid ⟨hR1, World.ownsRow_nil _ _ _ _, HRow0.out.kept hG1 (by omega), gb_trans HG0.out hG1⟩
  have HT1 : Hid (textL (sfx s (i + 1)) [] (i + 1 - i) = T) := Lib.hid (by rw [← HT.out, Nat.add_sub_cancel_left])
  clear hR1 hG1
  go_wp2_with fail
  go_loopw [4] (fun v wr => ∃ (k : Nat) (out : List UInt8), i + out.length < k ∧ Hid (Tx4 w wr R s k v out) ∧ Hid (textL (sfx s k) out (k - i) = T)) (fun _ wr => s.size - (intOf ((wr.cell? ⟨R, 1, none⟩).getD default)).toNat)
  case atStart => exact ⟨i + 1, [], by simp, HS, HT1⟩
  case round =>
    obtain ⟨k, out, hik, hS, hTx⟩ := hrel
    obtain ⟨va, vc, hv⟩ := bx_shape hS.out.own
    subst hv
    have hk1 := hS.out.rd.c1
    have hk0 := hS.out.rd.c0
    have hle := hS.out.rd.le
    obtain ⟨hrb, b0, b1, b2, b3, b4, bz⟩ := hS.out.row
    have bz0 := bz 0
    have bz1 := bz 1
    have bz2 := bz 2
    have bz3 := bz 3
    have bz4 := bz 4
    clear bz
    go_wp2_with fail
    refine (lexPeek0 R s k 0 0 0 _ hS.out.rd).mono ?_
    rintro e' w2 ⟨rfl, m, rfl⟩
    by_cases hks : k < s.size
    · by_cases h10 : bt s k = 10
      · have HTE := Lib.hid (hTx.out.symm.trans (tx_nl out _ hks h10))
        have hE1 : ((k : Int) == (s.size : Int)) = false := by simp; omega
        have hE2 : (bt s k == 10) = true := by simp [h10]
        clear h10
        go_wp2_with fail
        go_quiet (fail)
        go_wp2_with fail
        (try simp only [Exit.inBlock, Exit.then])
        refine bodyPost_ret (v := .tuple #[.agg #[.int .i64 0, .string ⟨#[]⟩, .int .i64 0, .int .i64 0, .int .i64 0], .int .i64 2]) ?_ rfl ⟨_, _, rfl, .inr ⟨?_, ⟨_, _, _, rfl⟩, .inl ⟨?_, ?_, k, ?_⟩⟩, ?_⟩
        · rw [results_cell_tmp rfl]; go_simp
        · rw [HTE.out]; show (2 : Int) ≠ 0; decide
        · (rw [HTE.out] <;> rfl)
        · (rw [HTE.out] <;> rfl)
        · exact (((((hS.out.rd.drewN _).far hblk _ _).far hblk _ _).far hblk _ _).far hblk _ _).far hblk _ _
        · exact gb_far (gb_far (gb_far (gb_far (gb_far (gb_drewN hS.out.gb _) (Nat.le_refl _) _ _) (Nat.le_refl _) _ _) (Nat.le_refl _) _ _) (Nat.le_refl _) _ _) (Nat.le_refl _) _ _
      · have hE1 : ((k : Int) == (s.size : Int)) = false := by simp; omega
        have hE2 : (bt s k == 10) = false := by simp [h10]
        have H10 := Lib.hid h10
        clear h10
        by_cases h34 : bt s k = 34
        · have HTF := Lib.hid (hTx.out.symm.trans (tx_quote out _ hks h34))
          have hE3 : (bt s k == 34) = true := by simp [h34]
          clear h34
          go_wp2_with fail
          go_quiet (fail)
          go_wp2_with fail
          refine (lexStep R s k 0 0 0 _ (hS.out.rd.drewN _) hks).mono ?_
          rintro e' w3 ⟨rfl, hR3, hG3⟩
          have HX := Lib.hid (hS.out.keep hblk hR3 (gb_trans (gb_drewN (gb_refl _ _) _) hG3))
          clear hR3 hG3 hrb b0 b1 b2 b3 b4 bz0 bz1 bz2 bz3 bz4
          obtain ⟨hrb, b0, b1, b2, b3, b4, bz⟩ := HX.out.row
          have bz0 := bz 0
          have bz1 := bz 1
          have bz2 := bz 2
          have bz3 := bz 3
          have bz4 := bz 4
          clear bz
          by_cases h1024 : 1024 < out.length
          · have HTE := Lib.hid (HTF.out.trans (if_pos h1024))
            go_wp2_with fail
            (try simp only [Exit.inBlock, Exit.then])
            refine bodyPost_ret (v := .tuple #[.agg #[.int .i64 0, .string ⟨#[]⟩, .int .i64 0, .int .i64 0, .int .i64 0], .int .i64 3]) ?_ rfl ⟨_, _, rfl, .inr ⟨?_, ⟨_, _, _, rfl⟩, .inl ⟨?_, ?_, k + 1, ?_⟩⟩, ?_⟩
            · rw [results_cell_tmp rfl]; go_simp
            · rw [HTE.out]; show (3 : Int) ≠ 0; decide
            · (rw [HTE.out] <;> rfl)
            · (rw [HTE.out] <;> rfl)
            · exact ((((HX.out.rd.far hblk _ _).far hblk _ _).far hblk _ _).far hblk _ _).far hblk _ _
            · exact gb_far (gb_far (gb_far (gb_far (gb_far HX.out.gb (Nat.le_refl _) _ _) (Nat.le_refl _) _ _) (Nat.le_refl _) _ _) (Nat.le_refl _) _ _) (Nat.le_refl _) _ _
          · have HTE := Lib.hid (HTF.out.trans (if_neg h1024))
            have hconv := conv_own (P := Tryd.prog) 40 9 Tryd.underlying40 Tryd.underlying5 Tryd.underlying9 HX.out.own
            go_wp2_with fail
            (try simp only [Exit.inBlock, Exit.then])
            refine bodyPost_ret (v := .tuple #[.agg #[.int .i64 3, .string (mkB out), .int .i64 0, .int .i64 0, .int .i64 0], .int .i64 0]) ?_ rfl ⟨_, _, rfl, .inl ⟨?_, ?_, rfl, ?_⟩, ?_⟩
            · rw [results_cell_tmp rfl]; go_simp
            · rw [HTE.out]
            · rw [HTE.out]; rfl
            · have e : i + T.len = k + 1 := by rw [HTE.out]; show i + (k - i + 1) = k + 1; omega
              rw [e]
              exact ((((HX.out.rd.far hblk _ _).far hblk _ _).far hblk _ _).far hblk _ _).far hblk _ _
            · exact gb_far (gb_far (gb_far (gb_far (gb_far HX.out.gb (Nat.le_refl _) _ _) (Nat.le_refl _) _ _) (Nat.le_refl _) _ _) (Nat.le_refl _) _ _) (Nat.le_refl _) _ _
        · have hE3 : (bt s k == 34) = false := by simp [h34]
          by_cases h92 : bt s k = 92
          · have HTF := Lib.hid (hTx.out.symm.trans (tx_esc out _ hks h92))
            have hE4 : (bt s k == 92) = true := by simp [h92]
            clear h92 h34
            go_wp2_with fail
            go_quiet (fail)
            go_wp2_with fail
            refine (lexPeek1 R s k 0 0 0 _ (hS.out.rd.drewN _)).mono ?_
            rintro e' w3 ⟨rfl, m2, rfl⟩
            by_cases hc : bt s (k + 1) = 110 ∨ bt s (k + 1) = 34 ∨ bt s (k + 1) = 92
            · have HTE := Lib.hid (HTF.out.trans (if_pos hc))
              have hk2 : k + 1 < s.size := by
                by_cases h : k + 1 < s.size
                · exact h
                · rw [bt_end s (by omega)] at hc; omega
              have hE5 : ((k : Int) + 1 == (s.size : Int)) = false := by simp; omega
              rcases hc with hc | hc | hc
              · have hix : ixC [110, 34, 92] (bt s (k + 1)) = 0 := by rw [hc]; decide +kernel
                have HTE' : Hid (T = textL (sfx s (k + 2)) (out ++ [10]) (k - i + 2)) := Lib.hid (by rw [HTE.out, hc]; rfl)
                clear hc
                go_wp2_with fail
                refine (lexIx3 _ _ _ hix).mono ?_
                rintro e' w4 ⟨rfl, rfl⟩
                clear hix
                go_wp2_with fail
                go_quiet (fail)
                have HY := Lib.hid (fun n => hS.out.drewN hblk n)
                have hbd : out.length + 1 ≤ maxLen ∧ (out.length + 1) * 1 ≤ 140737488355328 := by unfold maxLen; omega
                go_wp2_with (at_builtin; refine wpList_append_own _ rfl _ _ 40 rfl (w.heap.size + 1) 5 i0 (.int .u8 0) 1 1 Tryd.underlying40 hi hz0 hz1 hz2 rfl (by decide) _ _ _ rfl ((HY.out _).own.alloc _) ⟨wr.heap.size, 0, none⟩ 1 1 [.int .u8 10] rfl rfl (cell_one_new _ _ _) (bx_one rfl) hbd.1 hbd.2 (bx_alloc (show w.heap.size + 1 ≤ (wr.drewN _).heap.size from hrb) _) ?_; intro v5 w5 hown5 hgrow5 _)
                have HZ := Lib.hid ((HY.out _).push (b := 10) hblk hgrow5 hown5)
                clear hown5 hgrow5
                go_wp2_with fail
                refine (lexStep R s k 0 0 0 _ HZ.out.rd hks).mono ?_
                rintro e' w6 ⟨rfl, hR6, hG6⟩
                have HZ6 := Lib.hid (HZ.out.keep hblk hR6 hG6)
                clear hR6 hG6
                go_wp2_with fail
                refine (lexStep R s (k + 1) 0 0 0 _ HZ6.out.rd hk2).mono ?_
                rintro e' w7 ⟨rfl, hR7, hG7⟩
                have hq1 := hR7.c1
                have HZ7 := Lib.hid (HZ6.out.keep hblk hR7 hG7)
                have HT7 : Hid (textL (sfx s (k + 2)) (out ++ [10]) (k + 2 - i) = T) := Lib.hid (by rw [HTE'.out, show k + 2 - i = k - i + 2 by omega])
                clear hR7 hG7
                go_wp2
                go_roundw
                case rel => exact ⟨k + 2, _, by simp; omega, HZ7, HT7⟩
                case measure => simp only [hq1, hk1]; simp [intOf]; omega
              · have hix : ixC [110, 34, 92] (bt s (k + 1)) = 1 := by rw [hc]; decide +kernel
                have HTE' : Hid (T = textL (sfx s (k + 2)) (out ++ [34]) (k - i + 2)) := Lib.hid (by rw [HTE.out, hc]; rfl)
                clear hc
                go_wp2_with fail
                refine (lexIx3 _ _ _ hix).mono ?_
                rintro e' w4 ⟨rfl, rfl⟩
                clear hix
                go_wp2_with fail
                go_quiet (fail)
                have HY := Lib.hid (fun n => hS.out.drewN hblk n)
                have hbd : out.length + 1 ≤ maxLen ∧ (out.length + 1) * 1 ≤ 140737488355328 := by unfold maxLen; omega
                go_wp2_with (at_builtin; refine wpList_append_own _ rfl _ _ 40 rfl (w.heap.size + 1) 5 i0 (.int .u8 0) 1 1 Tryd.underlying40 hi hz0 hz1 hz2 rfl (by decide) _ _ _ rfl ((HY.out _).own.alloc _) ⟨wr.heap.size, 0, none⟩ 1 1 [.int .u8 34] rfl rfl (cell_one_new _ _ _) (bx_one rfl) hbd.1 hbd.2 (bx_alloc (show w.heap.size + 1 ≤ (wr.drewN _).heap.size from hrb) _) ?_; intro v5 w5 hown5 hgrow5 _)
                have HZ := Lib.hid ((HY.out _).push (b := 34) hblk hgrow5 hown5)
                clear hown5 hgrow5
                go_wp2_with fail
                refine (lexStep R s k 0 0 0 _ HZ.out.rd hks).mono ?_
                rintro e' w6 ⟨rfl, hR6, hG6⟩
                have HZ6 := Lib.hid (HZ.out.keep hblk hR6 hG6)
                clear hR6 hG6
                go_wp2_with fail
                refine (lexStep R s (k + 1) 0 0 0 _ HZ6.out.rd hk2).mono ?_
                rintro e' w7 ⟨rfl, hR7, hG7⟩
                have hq1 := hR7.c1
                have HZ7 := Lib.hid (HZ6.out.keep hblk hR7 hG7)
                have HT7 : Hid (textL (sfx s (k + 2)) (out ++ [34]) (k + 2 - i) = T) := Lib.hid (by rw [HTE'.out, show k + 2 - i = k - i + 2 by omega])
                clear hR7 hG7
                go_wp2
                go_roundw
                case rel => exact ⟨k + 2, _, by simp; omega, HZ7, HT7⟩
                case measure => simp only [hq1, hk1]; simp [intOf]; omega
              · have hix : ixC [110, 34, 92] (bt s (k + 1)) = 2 := by rw [hc]; decide +kernel
                have HTE' : Hid (T = textL (sfx s (k + 2)) (out ++ [92]) (k - i + 2)) := Lib.hid (by rw [HTE.out, hc]; rfl)
                clear hc
                go_wp2_with fail
                refine (lexIx3 _ _ _ hix).mono ?_
                rintro e' w4 ⟨rfl, rfl⟩
                clear hix
                go_wp2_with fail
                go_quiet (fail)
                have HY := Lib.hid (fun n => hS.out.drewN hblk n)
                have hbd : out.length + 1 ≤ maxLen ∧ (out.length + 1) * 1 ≤ 140737488355328 := by unfold maxLen; omega
                go_wp2_with (at_builtin; refine wpList_append_own _ rfl _ _ 40 rfl (w.heap.size + 1) 5 i0 (.int .u8 0) 1 1 Tryd.underlying40 hi hz0 hz1 hz2 rfl (by decide) _ _ _ rfl ((HY.out _).own.alloc _) ⟨wr.heap.size, 0, none⟩ 1 1 [.int .u8 92] rfl rfl (cell_one_new _ _ _) (bx_one rfl) hbd.1 hbd.2 (bx_alloc (show w.heap.size + 1 ≤ (wr.drewN _).heap.size from hrb) _) ?_; intro v5 w5 hown5 hgrow5 _)
                have HZ := Lib.hid ((HY.out _).push (b := 92) hblk hgrow5 hown5)
                clear hown5 hgrow5
                go_wp2_with fail
                refine (lexStep R s k 0 0 0 _ HZ.out.rd hks).mono ?_
                rintro e' w6 ⟨rfl, hR6, hG6⟩
                have HZ6 := Lib.hid (HZ.out.keep hblk hR6 hG6)
                clear hR6 hG6
                go_wp2_with fail
                refine (lexStep R s (k + 1) 0 0 0 _ HZ6.out.rd hk2).mono ?_
                rintro e' w7 ⟨rfl, hR7, hG7⟩
                have hq1 := hR7.c1
                have HZ7 := Lib.hid (HZ6.out.keep hblk hR7 hG7)
                have HT7 : Hid (textL (sfx s (k + 2)) (out ++ [92]) (k + 2 - i) = T) := Lib.hid (by rw [HTE'.out, show k + 2 - i = k - i + 2 by omega])
                clear hR7 hG7
                go_wp2
                go_roundw
                case rel => exact ⟨k + 2, _, by simp; omega, HZ7, HT7⟩
                case measure => simp only [hq1, hk1]; simp [intOf]; omega
            · have HTE := Lib.hid (HTF.out.trans (if_neg hc))
              have hix := ix3 ⟨bt_nonneg s (k + 1), bt_le s (k + 1)⟩ hc
              clear hc
              go_wp2_with fail
              refine (lexIx3 _ _ _ hix).mono ?_
              rintro e' w4 ⟨rfl, rfl⟩
              clear hix
              go_wp2_with fail
              go_quiet (fail)
              go_wp2_with fail
              refine (lexWrong R s k 0 0 0 4 _ (hS.out.rd.drewN _)).mono ?_
              rintro e' w5 ⟨rfl, hR5, hG5⟩
              clear hrb b0 b1 b2 b3 b4 bz0 bz1 bz2 bz3 bz4
              obtain ⟨hrb, b0, b1, b2, b3, b4, bz⟩ := (hS.out.row.kept (gb_trans (gb_drewN (gb_refl _ _) _) hG5) (by omega))
              have bz0 := bz 0
              have bz1 := bz 1
              have bz2 := bz 2
              have bz3 := bz 3
              have bz4 := bz 4
              clear bz
              go_wp2_with fail
              (try simp only [Exit.inBlock, Exit.then])
              refine bodyPost_ret (v := .tuple #[.agg #[.int .i64 0, .string ⟨#[]⟩, .int .i64 0, .int .i64 0, .int .i64 0], .int .i64 0]) ?_ rfl ⟨_, _, rfl, .inr ⟨?_, ⟨_, _, _, rfl⟩, .inr ⟨rfl, ?_⟩⟩, ?_⟩
              · rw [results_cell_tmp rfl]; go_simp
              · rw [HTE.out]; show (4 : Int) ≠ 0; decide
              · have e : i + T.off = k := by rw [HTE.out]; show i + (k - i) = k; omega
                rw [e, HTE.out]
                exact ((((hR5.far hblk _ _).far hblk _ _).far hblk _ _).far hblk _ _).far hblk _ _
              · exact gb_far (gb_far (gb_far (gb_far (gb_far (gb_trans (gb_drewN hS.out.gb _) hG5) (Nat.le_refl _) _ _) (Nat.le_refl _) _ _) (Nat.le_refl _) _ _) (Nat.le_refl _) _ _) (Nat.le_refl _) _ _
          · have hE4 : (bt s k == 92) = false := by simp [h92]
            cases hsd : cSaid (bt s k) with
            | false =>
              have HTE := Lib.hid (hTx.out.symm.trans (tx_bad out _ hks H10.out hsd))
              have HSD := Lib.hid hsd
              clear hsd h34 h92
              go_wp2_with fail
              go_quiet (fail)
              go_wp2_with fail
              refine (lexSaid _ _).mono ?_
              rintro e' w4 ⟨rfl, rfl⟩
              rw [HSD.out]
              go_wp2_with fail
              refine (lexWrong R s k 0 0 0 13 _ (hS.out.rd.drewN _)).mono ?_
              rintro e' w5 ⟨rfl, hR5, hG5⟩
              clear hrb b0 b1 b2 b3 b4 bz0 bz1 bz2 bz3 bz4
              obtain ⟨hrb, b0, b1, b2, b3, b4, bz⟩ := (hS.out.row.kept (gb_trans (gb_drewN (gb_refl _ _) _) hG5) (by omega))
              have bz0 := bz 0
              have bz1 := bz 1
              have bz2 := bz 2
              have bz3 := bz 3
              have bz4 := bz 4
              clear bz
              go_wp2_with fail
              (try simp only [Exit.inBlock, Exit.then])
              refine bodyPost_ret (v := .tuple #[.agg #[.int .i64 0, .string ⟨#[]⟩, .int .i64 0, .int .i64 0, .int .i64 0], .int .i64 0]) ?_ rfl ⟨_, _, rfl, .inr ⟨?_, ⟨_, _, _, rfl⟩, .inr ⟨rfl, ?_⟩⟩, ?_⟩
              · rw [results_cell_tmp rfl]; go_simp
              · rw [HTE.out]; show (13 : Int) ≠ 0; decide
              · have e : i + T.off = k := by rw [HTE.out]; show i + (k - i) = k; omega
                rw [e, HTE.out]
                exact ((((hR5.far hblk _ _).far hblk _ _).far hblk _ _).far hblk _ _).far hblk _ _
              · exact gb_far (gb_far (gb_far (gb_far (gb_far (gb_trans (gb_drewN hS.out.gb _) hG5) (Nat.le_refl _) _ _) (Nat.le_refl _) _ _) (Nat.le_refl _) _ _) (Nat.le_refl _) _ _) (Nat.le_refl _) _ _
            | true =>
              have HTE := Lib.hid (hTx.out.symm.trans (tx_step out _ hks h34 h92 hsd))
              have HSD := Lib.hid hsd
              clear hsd h34 h92
              go_wp2_with fail
              go_quiet (fail)
              go_wp2_with fail
              refine (lexSaid _ _).mono ?_
              rintro e' w4 ⟨rfl, rfl⟩
              rw [HSD.out]
              have HY := Lib.hid (fun n => hS.out.drewN hblk n)
              have hbd : out.length + 1 ≤ maxLen ∧ (out.length + 1) * 1 ≤ 140737488355328 := by unfold maxLen; omega
              go_wp2_with (at_builtin; refine wpList_append_own _ rfl _ _ 40 rfl (w.heap.size + 1) 5 i0 (.int .u8 0) 1 1 Tryd.underlying40 hi hz0 hz1 hz2 rfl (by decide) _ _ _ rfl ((HY.out _).own.alloc _) ⟨wr.heap.size, 0, none⟩ 1 1 [.int .u8 (bt s k)] rfl rfl (cell_one_new _ _ _) (bx_one rfl) hbd.1 hbd.2 (bx_alloc (show w.heap.size + 1 ≤ (wr.drewN _).heap.size from hrb) _) ?_; intro v5 w5 hown5 hgrow5 _)
              have HZ := Lib.hid ((HY.out _).push (b := ub s k) hblk hgrow5 (by rw [byteV, ub_val]; exact hown5))
              clear hown5 hgrow5
              go_wp2_with fail
              refine (lexStep R s k 0 0 0 _ HZ.out.rd hks).mono ?_
              rintro e' w6 ⟨rfl, hR6, hG6⟩
              have hq1 := hR6.c1
              have HZ6 := Lib.hid (HZ.out.keep hblk hR6 hG6)
              have HT6 : Hid (textL (sfx s (k + 1)) (out ++ [ub s k]) (k + 1 - i) = T) := Lib.hid (by rw [HTE.out, show k + 1 - i = k - i + 1 by omega])
              clear hR6 hG6
              go_wp2
              go_roundw
              case rel => exact ⟨k + 1, _, by simp; omega, HZ6, HT6⟩
              case measure => simp only [hq1, hk1]; simp [intOf]; omega
    · have hE1 : ((k : Int) == (s.size : Int)) = true := by simp; omega
      have HTE := Lib.hid (hTx.out.symm.trans (tx_end out _ (by omega)))
      go_wp2_with fail
      go_quiet (fail)
      go_wp2_with fail
      (try simp only [Exit.inBlock, Exit.then])
      refine bodyPost_ret (v := .tuple #[.agg #[.int .i64 0, .string ⟨#[]⟩, .int .i64 0, .int .i64 0, .int .i64 0], .int .i64 2]) ?_ rfl ⟨_, _, rfl, .inr ⟨?_, ⟨_, _, _, rfl⟩, .inl ⟨?_, ?_, k, ?_⟩⟩, ?_⟩
      · rw [results_cell_tmp rfl]; go_simp
      · rw [HTE.out]; show (2 : Int) ≠ 0; decide
      · (rw [HTE.out] <;> rfl)
      · (rw [HTE.out] <;> rfl)
      · exact (((((hS.out.rd.drewN _).far hblk _ _).far hblk _ _).far hblk _ _).far hblk _ _).far hblk _ _
      · exact gb_far (gb_far (gb_far (gb_far (gb_far (gb_drewN hS.out.gb _) (Nat.le_refl _) _ _) (Nat.le_refl _) _ _) (Nat.le_refl _) _ _) (Nat.le_refl _) _ _) (Nat.le_refl _) _ _
end Go.Proofs.YtmelilppeikdiaaDoor
