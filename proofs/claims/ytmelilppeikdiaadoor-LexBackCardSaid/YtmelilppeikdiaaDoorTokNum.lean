/- The reader's number. -/
import Derived.Test.YtmelilppeikdiaaDoorTok
import Derived.Test.YtmelilppeikdiaaDoorPastDigit
import Derived.Test.YtmelilppeikdiaaDoorNumParse2
namespace Go.Proofs.YtmelilppeikdiaaDoor
open Go.RowKit Go.PlainAid

theorem bt_mkB (l : List UInt8) : bt (mkB l) 0 = hd l := by
  cases l with
  | nil => rfl
  | cons b t =>
    have h : 0 < (mkB (b :: t)).data.toList.length := by show 0 < (b :: t).length; simp
    rw [bt_at' _ _ h]; rfl
theorem hd_take {l : List UInt8} {n : Nat} (h : 0 < n) : hd (l.take n) = hd l := by
  cases l with
  | nil => simp
  | cons b t =>
    cases n with
    | zero => omega
    | succ n => rfl

def numBad (c b : Int) (n : Nat) : Bool := (smallB c || greatB c || decide (c = 95)) || (decide (b = 48) && decide (1 < n))

set_option maxHeartbeats 4000000 in
theorem lexNumber (R : Nat) (s : ByteArray) (i : Nat) (w : World) (h : RD w R s i 0 0 0) (hdg : digitB (bt s i) = true) :
    Calls Tryd.prog 33 #[.pointer (some ⟨R, 0, none⟩)] w fun e' w' => ∃ v e, e' = .returned (.tuple #[v, .int .i64 e]) ∧ TokP w' R s i (numT (sfx s i)) v e ∧ w.grownBy w' (some R) := by
  have hblk := h.blk
  have HR := Lib.hid h
  have hlim := h.lim
  clear h
  go_enter Tryd.func33, Tryd.ntmps33
  go_wp2_with fail
  refine (lexPastDigit R s i 0 0 0 _ (HR.out.below (one_alloc _ _))).mono ?_
  rintro e' w1 ⟨rfl, hR1, hG1⟩
  obtain ⟨⟨hc0, hc1, hc2, hc3, hc4⟩, hz⟩ := res_cells hblk hG1
  have hz0 := hz 0
  have hz1 := hz 1
  have hz2 := hz 2
  have hz3 := hz 3
  have hz4 := hz 4
  clear hz
  have HG1 := Lib.hid (gb_trans (World.grownBy_alloc w _ (some R)) hG1)
  have HR1 := Lib.hid hR1
  have HG0 := Lib.hid hG1
  clear hG1 hR1
  have hn := runL_le digitB (sfx s i)
  have hsz := take_len hn
  rw [sfx_len] at hn
  have hpos : 0 < runL digitB (sfx s i) := by
    have hlt : i < s.size := by
      by_cases h : i < s.size
      · exact h
      · rw [bt_end s (by omega)] at hdg; simp [digitB] at hdg
    obtain ⟨b, e, hb⟩ := sfx_cons hlt
    rw [e, runL, if_pos (by rw [hb]; exact hdg)]; omega
  obtain ⟨B, hB⟩ : ∃ B, mkB ((sfx s i).take (runL digitB (sfx s i))) = B := ⟨_, rfl⟩
  have hb0 : bt B 0 = bt s i := by rw [← hB, bt_mkB, hd_take hpos, hd_sfx]
  have hT : numT (sfx s i) = (if numBad (bt s (i + runL digitB (sfx s i))) (bt B 0) (runL digitB (sfx s i)) = true then ⟨2, [], 0, runL digitB (sfx s i), 4, 0⟩ else ⟨2, [], numN B 32767, runL digitB (sfx s i), numE B 32767, 0⟩) := by
    unfold numT numBad; rw [hB, sfx_drop, hd_sfx, hd_sfx, hb0]
  rw [hB] at hsz ⊢
  clear hB
  have hbB := get_bt B
  have hdg' : 48 ≤ bt B 0 ∧ bt B 0 ≤ 57 := by rw [hb0]; simpa [digitB] using hdg
  have hneg : negB B = false := by simp only [negB, Bool.and_eq_false_iff, decide_eq_false_iff_not]; right; omega
  have hV : parV B = numN B 32767 := by simp [parV, hneg]
  have hE : parE B = numE B 32767 := by simp [parE, hneg]
  have HV := Lib.hid hV
  have HE := Lib.hid hE
  have HC := Lib.hid (numE_cases B 32767)
  clear hV hE hneg hb0 hdg
  generalize runL digitB (sfx s i) = n at *
  have HT := Lib.hid hT
  clear hT
  have hBs : B.size ≤ maxLen := by unfold maxLen; omega
  have hps := HR1.out.le
  go_wp2_with fail
  refine (lexPeek0 R s (i + n) 0 0 0 _ HR1.out).mono ?_
  rintro e' w2 ⟨rfl, m, rfl⟩
  obtain ⟨c, hc⟩ : ∃ c, bt s (i + n) = c := ⟨_, rfl⟩
  obtain ⟨b, hb⟩ : ∃ b, bt B 0 = b := ⟨_, rfl⟩
  have HT' := Lib.hid HT.out
  rw [hc, hb] at HT'
  rw [hb] at hdg'
  have hbb := hbB 0 (by omega)
  rw [hb] at hbb
  rw [hc]
  clear HT hbB hb hc
  by_cases hn1 : 1 < n
  · by_cases h48 : b = 48
    · have HQ := Lib.hid (HT'.out.trans (if_pos (show numBad c b n = true by simp [numBad, hn1, h48])))
      have h48' : (b == 48) = true := by simp [h48]
      clear h48
      go_wp2
      (try simp only [Exit.inBlock, Exit.then])
      refine bodyPost_ret (v := .tuple #[.agg #[.int .i64 0, .string ⟨#[]⟩, .int .i64 0, .int .i64 0, .int .i64 0], .int .i64 4]) ?_ rfl ⟨_, _, rfl, .inr ⟨?_, ⟨_, _, _, rfl⟩, .inl ⟨?_, ?_, ?_⟩⟩, ?_⟩
      · rw [results_cell_tmp rfl]; go_simp
      · rw [HQ.out]; show (4 : Int) ≠ 0; decide
      · rw [HQ.out]
      · rw [HQ.out]
      · exact ⟨_, (((((HR1.out.drewN _).far hblk _ _).far hblk _ _).far hblk _ _).far hblk _ _).far hblk _ _⟩
      · exact gb_far (gb_far (gb_far (gb_far (gb_far (gb_drewN HG1.out _) (Nat.le_refl _) _ _) (Nat.le_refl _) _ _) (Nat.le_refl _) _ _) (Nat.le_refl _) _ _) (Nat.le_refl _) _ _
    · have h48' : (b == 48) = false := by simp [h48]
      have HN : Hid (numBad c b n = (smallB c || greatB c || decide (c = 95))) := Lib.hid (by simp [numBad, h48])
      clear h48
      by_cases hc1 : 97 ≤ c
      · by_cases hc2 : c ≤ 122
        · have HQ := Lib.hid (HT'.out.trans (if_pos (show numBad c b n = true by rw [HN.out]; simp [smallB]; omega)))
          go_wp2
          (try simp only [Exit.inBlock, Exit.then])
          refine bodyPost_ret (v := .tuple #[.agg #[.int .i64 0, .string ⟨#[]⟩, .int .i64 0, .int .i64 0, .int .i64 0], .int .i64 4]) ?_ rfl ⟨_, _, rfl, .inr ⟨?_, ⟨_, _, _, rfl⟩, .inl ⟨?_, ?_, ?_⟩⟩, ?_⟩
          · rw [results_cell_tmp rfl]; go_simp
          · rw [HQ.out]; show (4 : Int) ≠ 0; decide
          · rw [HQ.out]
          · rw [HQ.out]
          · exact ⟨_, (((((HR1.out.drewN _).far hblk _ _).far hblk _ _).far hblk _ _).far hblk _ _).far hblk _ _⟩
          · exact gb_far (gb_far (gb_far (gb_far (gb_far (gb_drewN HG1.out _) (Nat.le_refl _) _ _) (Nat.le_refl _) _ _) (Nat.le_refl _) _ _) (Nat.le_refl _) _ _) (Nat.le_refl _) _ _
        · have HQ := Lib.hid (HT'.out.trans (if_neg (show ¬ numBad c b n = true by rw [HN.out]; simp [smallB, greatB]; omega)))
          have h95 : (c == 95) = false := by simp; omega
          go_wp2_with (go_at_call 42; refine (numParse B _ hBs).mono ?_; rintro e' w3 ⟨rfl, hw3⟩; have hb3 : Below (w1.drewN m).heap.size (w1.drewN m) w3 := (hw3 ▸ one_alloc _ _); have HA := Lib.hid ((HR1.out.drewN m).below hb3); have HB := Lib.hid (gb_below (gb_drewN HG1.out m) hb3); obtain ⟨⟨dc0, dc1, dc2, dc3, dc4⟩, dz⟩ := res_cells hblk (gb_below (gb_drewN HG0.out m) hb3); have dz0 := dz 0; have dz1 := dz 1; have dz2 := dz 2; have dz3 := dz 3; have dz4 := dz 4; clear dz hw3 hb3)
          (try simp only [Exit.inBlock, Exit.then])
          refine bodyPost_ret (v := .tuple #[.agg #[.int .i64 2, .string ⟨#[]⟩, .int .i64 (parV B), .int .i64 0, .int .i64 0], .int .i64 (parE B)]) ?_ rfl ⟨_, _, rfl, ?_, ?_⟩
          · rw [results_cell_tmp rfl]; go_simp
          · rw [HQ.out]
            have HA' := ((((HA.out.far hblk 0 (.int .i64 2)).far hblk 1 (.string ⟨#[]⟩)).far hblk 2 (.int .i64 (parV B))).far hblk 3 (.int .i64 0)).far hblk 4 (.int .i64 0)
            by_cases h0 : numE B 32767 = 0
            · exact .inl ⟨h0, by rw [tokV, HV.out]; rfl, by rw [HE.out, h0], HA'⟩
            · exact .inr ⟨h0, ⟨_, _, _, rfl⟩, .inl ⟨HE.out, rfl, _, HA'⟩⟩
          · exact gb_far (gb_far (gb_far (gb_far (gb_far HB.out (Nat.le_refl _) _ _) (Nat.le_refl _) _ _) (Nat.le_refl _) _ _) (Nat.le_refl _) _ _) (Nat.le_refl _) _ _
      · by_cases hc3 : 65 ≤ c
        · by_cases hc4 : c ≤ 90
          · have HQ := Lib.hid (HT'.out.trans (if_pos (show numBad c b n = true by rw [HN.out]; simp [smallB, greatB]; omega)))
            go_wp2
            (try simp only [Exit.inBlock, Exit.then])
            refine bodyPost_ret (v := .tuple #[.agg #[.int .i64 0, .string ⟨#[]⟩, .int .i64 0, .int .i64 0, .int .i64 0], .int .i64 4]) ?_ rfl ⟨_, _, rfl, .inr ⟨?_, ⟨_, _, _, rfl⟩, .inl ⟨?_, ?_, ?_⟩⟩, ?_⟩
            · rw [results_cell_tmp rfl]; go_simp
            · rw [HQ.out]; show (4 : Int) ≠ 0; decide
            · rw [HQ.out]
            · rw [HQ.out]
            · exact ⟨_, (((((HR1.out.drewN _).far hblk _ _).far hblk _ _).far hblk _ _).far hblk _ _).far hblk _ _⟩
            · exact gb_far (gb_far (gb_far (gb_far (gb_far (gb_drewN HG1.out _) (Nat.le_refl _) _ _) (Nat.le_refl _) _ _) (Nat.le_refl _) _ _) (Nat.le_refl _) _ _) (Nat.le_refl _) _ _
          · by_cases hc5 : c = 95
            · have HQ := Lib.hid (HT'.out.trans (if_pos (show numBad c b n = true by rw [HN.out]; simp [hc5])))
              have h95 : (c == 95) = true := by simp [hc5]
              clear hc5
              go_wp2
              (try simp only [Exit.inBlock, Exit.then])
              refine bodyPost_ret (v := .tuple #[.agg #[.int .i64 0, .string ⟨#[]⟩, .int .i64 0, .int .i64 0, .int .i64 0], .int .i64 4]) ?_ rfl ⟨_, _, rfl, .inr ⟨?_, ⟨_, _, _, rfl⟩, .inl ⟨?_, ?_, ?_⟩⟩, ?_⟩
              · rw [results_cell_tmp rfl]; go_simp
              · rw [HQ.out]; show (4 : Int) ≠ 0; decide
              · rw [HQ.out]
              · rw [HQ.out]
              · exact ⟨_, (((((HR1.out.drewN _).far hblk _ _).far hblk _ _).far hblk _ _).far hblk _ _).far hblk _ _⟩
              · exact gb_far (gb_far (gb_far (gb_far (gb_far (gb_drewN HG1.out _) (Nat.le_refl _) _ _) (Nat.le_refl _) _ _) (Nat.le_refl _) _ _) (Nat.le_refl _) _ _) (Nat.le_refl _) _ _
            · have HQ := Lib.hid (HT'.out.trans (if_neg (show ¬ numBad c b n = true by rw [HN.out]; simp [smallB, greatB]; omega)))
              have h95 : (c == 95) = false := by simp [hc5]
              clear hc5
              go_wp2_with (go_at_call 42; refine (numParse B _ hBs).mono ?_; rintro e' w3 ⟨rfl, hw3⟩; have hb3 : Below (w1.drewN m).heap.size (w1.drewN m) w3 := (hw3 ▸ one_alloc _ _); have HA := Lib.hid ((HR1.out.drewN m).below hb3); have HB := Lib.hid (gb_below (gb_drewN HG1.out m) hb3); obtain ⟨⟨dc0, dc1, dc2, dc3, dc4⟩, dz⟩ := res_cells hblk (gb_below (gb_drewN HG0.out m) hb3); have dz0 := dz 0; have dz1 := dz 1; have dz2 := dz 2; have dz3 := dz 3; have dz4 := dz 4; clear dz hw3 hb3)
              (try simp only [Exit.inBlock, Exit.then])
              refine bodyPost_ret (v := .tuple #[.agg #[.int .i64 2, .string ⟨#[]⟩, .int .i64 (parV B), .int .i64 0, .int .i64 0], .int .i64 (parE B)]) ?_ rfl ⟨_, _, rfl, ?_, ?_⟩
              · rw [results_cell_tmp rfl]; go_simp
              · rw [HQ.out]
                have HA' := ((((HA.out.far hblk 0 (.int .i64 2)).far hblk 1 (.string ⟨#[]⟩)).far hblk 2 (.int .i64 (parV B))).far hblk 3 (.int .i64 0)).far hblk 4 (.int .i64 0)
                by_cases h0 : numE B 32767 = 0
                · exact .inl ⟨h0, by rw [tokV, HV.out]; rfl, by rw [HE.out, h0], HA'⟩
                · exact .inr ⟨h0, ⟨_, _, _, rfl⟩, .inl ⟨HE.out, rfl, _, HA'⟩⟩
              · exact gb_far (gb_far (gb_far (gb_far (gb_far HB.out (Nat.le_refl _) _ _) (Nat.le_refl _) _ _) (Nat.le_refl _) _ _) (Nat.le_refl _) _ _) (Nat.le_refl _) _ _
        · have HQ := Lib.hid (HT'.out.trans (if_neg (show ¬ numBad c b n = true by rw [HN.out]; simp [smallB, greatB]; omega)))
          have h95 : (c == 95) = false := by simp; omega
          go_wp2_with (go_at_call 42; refine (numParse B _ hBs).mono ?_; rintro e' w3 ⟨rfl, hw3⟩; have hb3 : Below (w1.drewN m).heap.size (w1.drewN m) w3 := (hw3 ▸ one_alloc _ _); have HA := Lib.hid ((HR1.out.drewN m).below hb3); have HB := Lib.hid (gb_below (gb_drewN HG1.out m) hb3); obtain ⟨⟨dc0, dc1, dc2, dc3, dc4⟩, dz⟩ := res_cells hblk (gb_below (gb_drewN HG0.out m) hb3); have dz0 := dz 0; have dz1 := dz 1; have dz2 := dz 2; have dz3 := dz 3; have dz4 := dz 4; clear dz hw3 hb3)
          (try simp only [Exit.inBlock, Exit.then])
          refine bodyPost_ret (v := .tuple #[.agg #[.int .i64 2, .string ⟨#[]⟩, .int .i64 (parV B), .int .i64 0, .int .i64 0], .int .i64 (parE B)]) ?_ rfl ⟨_, _, rfl, ?_, ?_⟩
          · rw [results_cell_tmp rfl]; go_simp
          · rw [HQ.out]
            have HA' := ((((HA.out.far hblk 0 (.int .i64 2)).far hblk 1 (.string ⟨#[]⟩)).far hblk 2 (.int .i64 (parV B))).far hblk 3 (.int .i64 0)).far hblk 4 (.int .i64 0)
            by_cases h0 : numE B 32767 = 0
            · exact .inl ⟨h0, by rw [tokV, HV.out]; rfl, by rw [HE.out, h0], HA'⟩
            · exact .inr ⟨h0, ⟨_, _, _, rfl⟩, .inl ⟨HE.out, rfl, _, HA'⟩⟩
          · exact gb_far (gb_far (gb_far (gb_far (gb_far HB.out (Nat.le_refl _) _ _) (Nat.le_refl _) _ _) (Nat.le_refl _) _ _) (Nat.le_refl _) _ _) (Nat.le_refl _) _ _
  · have HN : Hid (numBad c b n = (smallB c || greatB c || decide (c = 95))) := Lib.hid (by simp [numBad, hn1])
    by_cases hc1 : 97 ≤ c
    · by_cases hc2 : c ≤ 122
      · have HQ := Lib.hid (HT'.out.trans (if_pos (show numBad c b n = true by rw [HN.out]; simp [smallB]; omega)))
        go_wp2
        (try simp only [Exit.inBlock, Exit.then])
        refine bodyPost_ret (v := .tuple #[.agg #[.int .i64 0, .string ⟨#[]⟩, .int .i64 0, .int .i64 0, .int .i64 0], .int .i64 4]) ?_ rfl ⟨_, _, rfl, .inr ⟨?_, ⟨_, _, _, rfl⟩, .inl ⟨?_, ?_, ?_⟩⟩, ?_⟩
        · rw [results_cell_tmp rfl]; go_simp
        · rw [HQ.out]; show (4 : Int) ≠ 0; decide
        · rw [HQ.out]
        · rw [HQ.out]
        · exact ⟨_, (((((HR1.out.drewN _).far hblk _ _).far hblk _ _).far hblk _ _).far hblk _ _).far hblk _ _⟩
        · exact gb_far (gb_far (gb_far (gb_far (gb_far (gb_drewN HG1.out _) (Nat.le_refl _) _ _) (Nat.le_refl _) _ _) (Nat.le_refl _) _ _) (Nat.le_refl _) _ _) (Nat.le_refl _) _ _
      · have HQ := Lib.hid (HT'.out.trans (if_neg (show ¬ numBad c b n = true by rw [HN.out]; simp [smallB, greatB]; omega)))
        have h95 : (c == 95) = false := by simp; omega
        go_wp2_with (go_at_call 42; refine (numParse B _ hBs).mono ?_; rintro e' w3 ⟨rfl, hw3⟩; have hb3 : Below (w1.drewN m).heap.size (w1.drewN m) w3 := (hw3 ▸ one_alloc _ _); have HA := Lib.hid ((HR1.out.drewN m).below hb3); have HB := Lib.hid (gb_below (gb_drewN HG1.out m) hb3); obtain ⟨⟨dc0, dc1, dc2, dc3, dc4⟩, dz⟩ := res_cells hblk (gb_below (gb_drewN HG0.out m) hb3); have dz0 := dz 0; have dz1 := dz 1; have dz2 := dz 2; have dz3 := dz 3; have dz4 := dz 4; clear dz hw3 hb3)
        (try simp only [Exit.inBlock, Exit.then])
        refine bodyPost_ret (v := .tuple #[.agg #[.int .i64 2, .string ⟨#[]⟩, .int .i64 (parV B), .int .i64 0, .int .i64 0], .int .i64 (parE B)]) ?_ rfl ⟨_, _, rfl, ?_, ?_⟩
        · rw [results_cell_tmp rfl]; go_simp
        · rw [HQ.out]
          have HA' := ((((HA.out.far hblk 0 (.int .i64 2)).far hblk 1 (.string ⟨#[]⟩)).far hblk 2 (.int .i64 (parV B))).far hblk 3 (.int .i64 0)).far hblk 4 (.int .i64 0)
          by_cases h0 : numE B 32767 = 0
          · exact .inl ⟨h0, by rw [tokV, HV.out]; rfl, by rw [HE.out, h0], HA'⟩
          · exact .inr ⟨h0, ⟨_, _, _, rfl⟩, .inl ⟨HE.out, rfl, _, HA'⟩⟩
        · exact gb_far (gb_far (gb_far (gb_far (gb_far HB.out (Nat.le_refl _) _ _) (Nat.le_refl _) _ _) (Nat.le_refl _) _ _) (Nat.le_refl _) _ _) (Nat.le_refl _) _ _
    · by_cases hc3 : 65 ≤ c
      · by_cases hc4 : c ≤ 90
        · have HQ := Lib.hid (HT'.out.trans (if_pos (show numBad c b n = true by rw [HN.out]; simp [smallB, greatB]; omega)))
          go_wp2
          (try simp only [Exit.inBlock, Exit.then])
          refine bodyPost_ret (v := .tuple #[.agg #[.int .i64 0, .string ⟨#[]⟩, .int .i64 0, .int .i64 0, .int .i64 0], .int .i64 4]) ?_ rfl ⟨_, _, rfl, .inr ⟨?_, ⟨_, _, _, rfl⟩, .inl ⟨?_, ?_, ?_⟩⟩, ?_⟩
          · rw [results_cell_tmp rfl]; go_simp
          · rw [HQ.out]; show (4 : Int) ≠ 0; decide
          · rw [HQ.out]
          · rw [HQ.out]
          · exact ⟨_, (((((HR1.out.drewN _).far hblk _ _).far hblk _ _).far hblk _ _).far hblk _ _).far hblk _ _⟩
          · exact gb_far (gb_far (gb_far (gb_far (gb_far (gb_drewN HG1.out _) (Nat.le_refl _) _ _) (Nat.le_refl _) _ _) (Nat.le_refl _) _ _) (Nat.le_refl _) _ _) (Nat.le_refl _) _ _
        · by_cases hc5 : c = 95
          · have HQ := Lib.hid (HT'.out.trans (if_pos (show numBad c b n = true by rw [HN.out]; simp [hc5])))
            have h95 : (c == 95) = true := by simp [hc5]
            clear hc5
            go_wp2
            (try simp only [Exit.inBlock, Exit.then])
            refine bodyPost_ret (v := .tuple #[.agg #[.int .i64 0, .string ⟨#[]⟩, .int .i64 0, .int .i64 0, .int .i64 0], .int .i64 4]) ?_ rfl ⟨_, _, rfl, .inr ⟨?_, ⟨_, _, _, rfl⟩, .inl ⟨?_, ?_, ?_⟩⟩, ?_⟩
            · rw [results_cell_tmp rfl]; go_simp
            · rw [HQ.out]; show (4 : Int) ≠ 0; decide
            · rw [HQ.out]
            · rw [HQ.out]
            · exact ⟨_, (((((HR1.out.drewN _).far hblk _ _).far hblk _ _).far hblk _ _).far hblk _ _).far hblk _ _⟩
            · exact gb_far (gb_far (gb_far (gb_far (gb_far (gb_drewN HG1.out _) (Nat.le_refl _) _ _) (Nat.le_refl _) _ _) (Nat.le_refl _) _ _) (Nat.le_refl _) _ _) (Nat.le_refl _) _ _
          · have HQ := Lib.hid (HT'.out.trans (if_neg (show ¬ numBad c b n = true by rw [HN.out]; simp [smallB, greatB]; omega)))
            have h95 : (c == 95) = false := by simp [hc5]
            clear hc5
            go_wp2_with (go_at_call 42; refine (numParse B _ hBs).mono ?_; rintro e' w3 ⟨rfl, hw3⟩; have hb3 : Below (w1.drewN m).heap.size (w1.drewN m) w3 := (hw3 ▸ one_alloc _ _); have HA := Lib.hid ((HR1.out.drewN m).below hb3); have HB := Lib.hid (gb_below (gb_drewN HG1.out m) hb3); obtain ⟨⟨dc0, dc1, dc2, dc3, dc4⟩, dz⟩ := res_cells hblk (gb_below (gb_drewN HG0.out m) hb3); have dz0 := dz 0; have dz1 := dz 1; have dz2 := dz 2; have dz3 := dz 3; have dz4 := dz 4; clear dz hw3 hb3)
            (try simp only [Exit.inBlock, Exit.then])
            refine bodyPost_ret (v := .tuple #[.agg #[.int .i64 2, .string ⟨#[]⟩, .int .i64 (parV B), .int .i64 0, .int .i64 0], .int .i64 (parE B)]) ?_ rfl ⟨_, _, rfl, ?_, ?_⟩
            · rw [results_cell_tmp rfl]; go_simp
            · rw [HQ.out]
              have HA' := ((((HA.out.far hblk 0 (.int .i64 2)).far hblk 1 (.string ⟨#[]⟩)).far hblk 2 (.int .i64 (parV B))).far hblk 3 (.int .i64 0)).far hblk 4 (.int .i64 0)
              by_cases h0 : numE B 32767 = 0
              · exact .inl ⟨h0, by rw [tokV, HV.out]; rfl, by rw [HE.out, h0], HA'⟩
              · exact .inr ⟨h0, ⟨_, _, _, rfl⟩, .inl ⟨HE.out, rfl, _, HA'⟩⟩
            · exact gb_far (gb_far (gb_far (gb_far (gb_far HB.out (Nat.le_refl _) _ _) (Nat.le_refl _) _ _) (Nat.le_refl _) _ _) (Nat.le_refl _) _ _) (Nat.le_refl _) _ _
      · have HQ := Lib.hid (HT'.out.trans (if_neg (show ¬ numBad c b n = true by rw [HN.out]; simp [smallB, greatB]; omega)))
        have h95 : (c == 95) = false := by simp; omega
        go_wp2_with (go_at_call 42; refine (numParse B _ hBs).mono ?_; rintro e' w3 ⟨rfl, hw3⟩; have hb3 : Below (w1.drewN m).heap.size (w1.drewN m) w3 := (hw3 ▸ one_alloc _ _); have HA := Lib.hid ((HR1.out.drewN m).below hb3); have HB := Lib.hid (gb_below (gb_drewN HG1.out m) hb3); obtain ⟨⟨dc0, dc1, dc2, dc3, dc4⟩, dz⟩ := res_cells hblk (gb_below (gb_drewN HG0.out m) hb3); have dz0 := dz 0; have dz1 := dz 1; have dz2 := dz 2; have dz3 := dz 3; have dz4 := dz 4; clear dz hw3 hb3)
        (try simp only [Exit.inBlock, Exit.then])
        refine bodyPost_ret (v := .tuple #[.agg #[.int .i64 2, .string ⟨#[]⟩, .int .i64 (parV B), .int .i64 0, .int .i64 0], .int .i64 (parE B)]) ?_ rfl ⟨_, _, rfl, ?_, ?_⟩
        · rw [results_cell_tmp rfl]; go_simp
        · rw [HQ.out]
          have HA' := ((((HA.out.far hblk 0 (.int .i64 2)).far hblk 1 (.string ⟨#[]⟩)).far hblk 2 (.int .i64 (parV B))).far hblk 3 (.int .i64 0)).far hblk 4 (.int .i64 0)
          by_cases h0 : numE B 32767 = 0
          · exact .inl ⟨h0, by rw [tokV, HV.out]; rfl, by rw [HE.out, h0], HA'⟩
          · exact .inr ⟨h0, ⟨_, _, _, rfl⟩, .inl ⟨HE.out, rfl, _, HA'⟩⟩
        · exact gb_far (gb_far (gb_far (gb_far (gb_far HB.out (Nat.le_refl _) _ _) (Nat.le_refl _) _ _) (Nat.le_refl _) _ _) (Nat.le_refl _) _ _) (Nat.le_refl _) _ _
end Go.Proofs.YtmelilppeikdiaaDoor
