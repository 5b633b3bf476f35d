/- Contract of clewref27.Decode.; Contract of clewref27.Decode.; Contract of clewref27.Decode. -/
import Derived.Test.YtbcpopakdlplgaaDoorAsmD2
namespace Go.Proofs.YtbcpopakdlplgaaDoor
open Go.RowKit Go.PlainAid
set_option linter.unusedVariables false
set_option linter.unusedSimpArgs false

set_option maxRecDepth 100000 in
set_option maxHeartbeats 8000000 in
theorem rdec_head (v : Value) (l : List UInt8) (k : Nat) (w : World) (hr : Reads Cd.byte.seq w v l) (hk : k < l.length) (hl : l.length ≤ 100000) (hx : (l[k].toNat : Int) / 4 < 1 ∨ 38 ≤ (l[k].toNat : Int) / 4 ∨ l[k].toNat % 4 = 3 ∨ (0 < l[k].toNat % 4 ∧ hasA ((l[k].toNat : Int) / 4) = false)) :
    Calls Tryd.prog 40 #[v, .int .i64 k] w fun e w' => e = .returned (decV (decI (l.drop k)) k) ∧ Below w.heap.size w w' := by
  have HJ : Hid (decI (l.drop k) = .inl 16) := Lib.hid (by rw [List.drop_eq_getElem_cons hk]; exact dec_bad hx)
  obtain ⟨b, off, cap, hv, hcap, hblt, hcell⟩ := byte_open hr (by omega)
  subst hv
  have hc0 := hcell k hk
  have HX := Lib.hid hx
  clear hx
  obtain ⟨c, hc⟩ : ∃ c, l[k] = c := ⟨_, rfl⟩
  rw [hc] at hc0 HX
  have HCE := Lib.hid hc
  have hd : l.drop k = c :: l.drop (k + 1) := by rw [List.drop_eq_getElem_cons hk, hc]
  obtain ⟨n, hn⟩ : ∃ n, l.length = n := ⟨_, rfl⟩
  have hCb : (0 : Int) ≤ (c.toNat : Int) ∧ (c.toNat : Int) ≤ 255 := by have := c.toNat_lt; omega
  have HK := Lib.hid hk
  have HCL := Lib.hid hcell
  rw [hn] at hk hl hcap ⊢
  have HN := Lib.hid hn
  have HD := Lib.hid hd
  clear hn hd hcell hc hr
  obtain ⟨C, hC⟩ : ∃ C : Int, (c.toNat : Int) = C := ⟨_, rfl⟩
  rw [hC] at hc0 hCb HX
  have HC := Lib.hid hC
  clear hC
  have hk0 : (0 : Int) ≤ (k : Int) := by omega
  have hk1 : (k : Int) < (n : Int) := by omega
  obtain ⟨O, hO⟩ : ∃ O, C / 4 = O := ⟨_, rfl⟩
  obtain ⟨M, hM⟩ : ∃ M, C % 4 = M := ⟨_, rfl⟩
  by_cases h1 : 1 ≤ O ∧ O ≤ 38
  · by_cases h2 : O = 38
    · subst h2
      go_enter Tryd.func40, Tryd.ntmps40
      go_wp2_with fail
      obtain ⟨W, hW⟩ : ∃ W, w.alloc (.cells #[.int .i64 0, .int .i64 0] 37) = W := ⟨_, rfl⟩
      have HBW : Hid (Below w.heap.size w W) := Lib.hid (by rw [← hW]; exact bl_a (Below.refl _ _) _)
      have HKW : Hid (BK W w.heap.size [.int .i64 0, .int .i64 0] 37) := Lib.hid (by rw [← hW]; exact BK.new w _ _)
      have hcW : W.cell? ⟨b, off + k, none⟩ = some (.int .u8 C) := by rw [HBW.out.cell (p := ⟨b, off + k, none⟩) hblt]; exact hc0
      have HW := Lib.hid hW
      clear hW hc0
      rw [HW.out]
      go_quiet (fail)
      have z0 := HKW.out.cell 0
      have z1 := HKW.out.cell 1
      have y0 := HKW.out.fr 0
      have y1 := HKW.out.fr 1
      simp only [List.getElem?_cons_zero, List.getElem?_cons_succ] at z0 z1
      go_wp2_with fail
      have g := ((HKW.out.drewN nq).set 0 (.int .i64 (0))).set 1 (.int .i64 (0))
      have g0 := g.cell 0
      have g1 := g.cell 1
      simp at g0 g1
      (try simp only [Exit.inBlock, Exit.then])
      refine bodyPost_ret (v := decV (.inl 16) k) ?_ rfl ⟨by rw [HJ.out], bl_s (bl_s (bl_drewN HBW.out nq) _ _ (Nat.le_refl _)) _ _ (Nat.le_refl _)⟩
      rw [results_ctt rfl]
      go_simp
      rfl
    · have h3 : (O == 38) = false := by simp [h2]
      obtain ⟨h1a, h1b⟩ := h1
      have h1c : O < 38 := by omega
      by_cases h4 : M = 3
      · subst h4
        go_enter Tryd.func40, Tryd.ntmps40
        go_wp2_with fail
        obtain ⟨W, hW⟩ : ∃ W, w.alloc (.cells #[.int .i64 0, .int .i64 0] 37) = W := ⟨_, rfl⟩
        have HBW : Hid (Below w.heap.size w W) := Lib.hid (by rw [← hW]; exact bl_a (Below.refl _ _) _)
        have HKW : Hid (BK W w.heap.size [.int .i64 0, .int .i64 0] 37) := Lib.hid (by rw [← hW]; exact BK.new w _ _)
        have hcW : W.cell? ⟨b, off + k, none⟩ = some (.int .u8 C) := by rw [HBW.out.cell (p := ⟨b, off + k, none⟩) hblt]; exact hc0
        have HW := Lib.hid hW
        clear hW hc0
        rw [HW.out]
        go_quiet (fail)
        have z0 := HKW.out.cell 0
        have z1 := HKW.out.cell 1
        have y0 := HKW.out.fr 0
        have y1 := HKW.out.fr 1
        simp only [List.getElem?_cons_zero, List.getElem?_cons_succ] at z0 z1
        go_wp2_with fail
        have g := ((HKW.out.drewN nq).set 0 (.int .i64 (0))).set 1 (.int .i64 (0))
        have g0 := g.cell 0
        have g1 := g.cell 1
        simp at g0 g1
        (try simp only [Exit.inBlock, Exit.then])
        refine bodyPost_ret (v := decV (.inl 16) k) ?_ rfl ⟨by rw [HJ.out], bl_s (bl_s (bl_drewN HBW.out nq) _ _ (Nat.le_refl _)) _ _ (Nat.le_refl _)⟩
        rw [results_ctt rfl]
        go_simp
        rfl
      · have h5 : (M == 3) = false := by simp [h4]
        have h6 : 0 < M ∧ hasA O = false := by
          rw [← hM, ← hO]
          rcases HX.out with h | h | h | h
          · omega
          · omega
          · exfalso; apply h4; have := HC.out; omega
          · exact ⟨by have := HC.out; omega, h.2⟩
        obtain ⟨h7, h8⟩ := h6
        have HA := Lib.hid (fun w => refHasC2 O false h8 w)
        clear h8 h4 h2
        go_enter Tryd.func40, Tryd.ntmps40
        go_wp2_with fail
        obtain ⟨W, hW⟩ : ∃ W, w.alloc (.cells #[.int .i64 0, .int .i64 0] 37) = W := ⟨_, rfl⟩
        have HBW : Hid (Below w.heap.size w W) := Lib.hid (by rw [← hW]; exact bl_a (Below.refl _ _) _)
        have HKW : Hid (BK W w.heap.size [.int .i64 0, .int .i64 0] 37) := Lib.hid (by rw [← hW]; exact BK.new w _ _)
        have hcW : W.cell? ⟨b, off + k, none⟩ = some (.int .u8 C) := by rw [HBW.out.cell (p := ⟨b, off + k, none⟩) hblt]; exact hc0
        have HW := Lib.hid hW
        clear hW hc0
        rw [HW.out]
        go_quiet (fail)
        have z0 := HKW.out.cell 0
        have z1 := HKW.out.cell 1
        have y0 := HKW.out.fr 0
        have y1 := HKW.out.fr 1
        simp only [List.getElem?_cons_zero, List.getElem?_cons_succ] at z0 z1
        go_wp2_with (go_at_call 45; refine (HA.out _).mono ?_; rintro e w1 ⟨rfl, hb1⟩; have HK1 := Lib.hid ((HKW.out.drewN nq).below hb1); have HB1 := Lib.hid (bl_thenA (bl_drewN HBW.out nq) hb1); have x0 := HK1.out.cell 0; have x1 := HK1.out.cell 1; have q0 := HK1.out.fr 0; have q1 := HK1.out.fr 1; simp only [List.getElem?_cons_zero, List.getElem?_cons_succ] at x0 x1; clear hb1)
        have g := ((HK1.out).set 0 (.int .i64 (0))).set 1 (.int .i64 (0))
        have g0 := g.cell 0
        have g1 := g.cell 1
        simp at g0 g1
        (try simp only [Exit.inBlock, Exit.then])
        refine bodyPost_ret (v := decV (.inl 16) k) ?_ rfl ⟨by rw [HJ.out], bl_s (bl_s (HB1.out) _ _ (Nat.le_refl _)) _ _ (Nat.le_refl _)⟩
        rw [results_ctt rfl]
        go_simp
        rfl
  · by_cases h0 : O < 1
    · clear h1
      go_enter Tryd.func40, Tryd.ntmps40
      go_wp2_with fail
      obtain ⟨W, hW⟩ : ∃ W, w.alloc (.cells #[.int .i64 0, .int .i64 0] 37) = W := ⟨_, rfl⟩
      have HBW : Hid (Below w.heap.size w W) := Lib.hid (by rw [← hW]; exact bl_a (Below.refl _ _) _)
      have HKW : Hid (BK W w.heap.size [.int .i64 0, .int .i64 0] 37) := Lib.hid (by rw [← hW]; exact BK.new w _ _)
      have hcW : W.cell? ⟨b, off + k, none⟩ = some (.int .u8 C) := by rw [HBW.out.cell (p := ⟨b, off + k, none⟩) hblt]; exact hc0
      have HW := Lib.hid hW
      clear hW hc0
      rw [HW.out]
      go_quiet (fail)
      have z0 := HKW.out.cell 0
      have z1 := HKW.out.cell 1
      have y0 := HKW.out.fr 0
      have y1 := HKW.out.fr 1
      simp only [List.getElem?_cons_zero, List.getElem?_cons_succ] at z0 z1
      go_wp2_with fail
      have g := ((HKW.out.drewN nq).set 0 (.int .i64 (0))).set 1 (.int .i64 (0))
      have g0 := g.cell 0
      have g1 := g.cell 1
      simp at g0 g1
      (try simp only [Exit.inBlock, Exit.then])
      refine bodyPost_ret (v := decV (.inl 16) k) ?_ rfl ⟨by rw [HJ.out], bl_s (bl_s (bl_drewN HBW.out nq) _ _ (Nat.le_refl _)) _ _ (Nat.le_refl _)⟩
      rw [results_ctt rfl]
      go_simp
      rfl
    · have h9 : 38 ≤ O := by omega
      have h0' : 1 ≤ O := by omega
      clear h1 h0
      go_enter Tryd.func40, Tryd.ntmps40
      go_wp2_with fail
      obtain ⟨W, hW⟩ : ∃ W, w.alloc (.cells #[.int .i64 0, .int .i64 0] 37) = W := ⟨_, rfl⟩
      have HBW : Hid (Below w.heap.size w W) := Lib.hid (by rw [← hW]; exact bl_a (Below.refl _ _) _)
      have HKW : Hid (BK W w.heap.size [.int .i64 0, .int .i64 0] 37) := Lib.hid (by rw [← hW]; exact BK.new w _ _)
      have hcW : W.cell? ⟨b, off + k, none⟩ = some (.int .u8 C) := by rw [HBW.out.cell (p := ⟨b, off + k, none⟩) hblt]; exact hc0
      have HW := Lib.hid hW
      clear hW hc0
      rw [HW.out]
      go_quiet (fail)
      have z0 := HKW.out.cell 0
      have z1 := HKW.out.cell 1
      have y0 := HKW.out.fr 0
      have y1 := HKW.out.fr 1
      simp only [List.getElem?_cons_zero, List.getElem?_cons_succ] at z0 z1
      go_wp2_with fail
      all_goals
        have g := ((HKW.out.drewN nq).set 0 (.int .i64 (0))).set 1 (.int .i64 (0))
        have g0 := g.cell 0
        have g1 := g.cell 1
        simp at g0 g1
        (try simp only [Exit.inBlock, Exit.then])
        refine bodyPost_ret (v := decV (.inl 16) k) ?_ rfl ⟨by rw [HJ.out], bl_s (bl_s (bl_drewN HBW.out nq) _ _ (Nat.le_refl _)) _ _ (Nat.le_refl _)⟩
        rw [results_ctt rfl]
        go_simp
        rfl
set_option maxRecDepth 100000 in
set_option maxHeartbeats 8000000 in
theorem rdec_shorts (v : Value) (l : List UInt8) (k : Nat) (w : World) (hr : Reads Cd.byte.seq w v l) (hk : k < l.length) (hl : l.length ≤ 100000) (hx : ¬ ((l[k].toNat : Int) / 4 < 1 ∨ 38 ≤ (l[k].toNat : Int) / 4 ∨ l[k].toNat % 4 = 3 ∨ (0 < l[k].toNat % 4 ∧ hasA ((l[k].toNat : Int) / 4) = false)))
    (hs : l.length < k + 1 + l[k].toNat % 4) :
    Calls Tryd.prog 40 #[v, .int .i64 k] w fun e w' => e = .returned (decV (decI (l.drop k)) k) ∧ Below w.heap.size w w' := by
  have HJ : Hid (decI (l.drop k) = .inl 2) := Lib.hid (by rw [List.drop_eq_getElem_cons hk]; exact dec_short hx (by simp; omega))
  have HH := Lib.hid (head_of hx)
  have HS := Lib.hid hs
  clear hs
  obtain ⟨b, off, cap, hv, hcap, hblt, hcell⟩ := byte_open hr (by omega)
  subst hv
  have hc0 := hcell k hk
  have HX := Lib.hid hx
  clear hx
  obtain ⟨c, hc⟩ : ∃ c, l[k] = c := ⟨_, rfl⟩
  rw [hc] at hc0 HX
  have HCE := Lib.hid hc
  have hd : l.drop k = c :: l.drop (k + 1) := by rw [List.drop_eq_getElem_cons hk, hc]
  obtain ⟨n, hn⟩ : ∃ n, l.length = n := ⟨_, rfl⟩
  have hCb : (0 : Int) ≤ (c.toNat : Int) ∧ (c.toNat : Int) ≤ 255 := by have := c.toNat_lt; omega
  have HK := Lib.hid hk
  have HCL := Lib.hid hcell
  rw [hn] at hk hl hcap ⊢
  have HN := Lib.hid hn
  have HD := Lib.hid hd
  clear hn hd hcell hc hr
  obtain ⟨C, hC⟩ : ∃ C : Int, (c.toNat : Int) = C := ⟨_, rfl⟩
  rw [hC] at hc0 hCb HX
  have HC := Lib.hid hC
  clear hC
  have hk0 : (0 : Int) ≤ (k : Int) := by omega
  have hk1 : (k : Int) < (n : Int) := by omega
  obtain ⟨O, hO⟩ : ∃ O, C / 4 = O := ⟨_, rfl⟩
  obtain ⟨M, hM⟩ : ∃ M, C % 4 = M := ⟨_, rfl⟩
  have hs := HS.out
  have hce := HCE.out
  have hcc := HC.out
  have hn := HN.out
  rw [hce] at hs
  have hsh : (n : Int) - (k : Int) - 1 < M := by omega
  rw [HCE.out, HC.out, hO, hM] at HH
  obtain ⟨h1, h2, h3, h4, h5⟩ := HH.out
  have hM0 : 0 < M := by omega
  have e1 : (O == 38) = false := by simp; omega
  have e2 : (M == 3) = false := by simp; omega
  have HA := Lib.hid (fun w => refHasC2 O true (h5 hM0) w)
  clear hs hce hcc hn h5
  go_enter Tryd.func40, Tryd.ntmps40
  go_wp2_with fail
  obtain ⟨W, hW⟩ : ∃ W, w.alloc (.cells #[.int .i64 0, .int .i64 0] 37) = W := ⟨_, rfl⟩
  have HBW : Hid (Below w.heap.size w W) := Lib.hid (by rw [← hW]; exact bl_a (Below.refl _ _) _)
  have HKW : Hid (BK W w.heap.size [.int .i64 0, .int .i64 0] 37) := Lib.hid (by rw [← hW]; exact BK.new w _ _)
  have hcW : W.cell? ⟨b, off + k, none⟩ = some (.int .u8 C) := by rw [HBW.out.cell (p := ⟨b, off + k, none⟩) hblt]; exact hc0
  have HW := Lib.hid hW
  clear hW hc0
  rw [HW.out]
  go_quiet (fail)
  have z0 := HKW.out.cell 0
  have z1 := HKW.out.cell 1
  have y0 := HKW.out.fr 0
  have y1 := HKW.out.fr 1
  simp only [List.getElem?_cons_zero, List.getElem?_cons_succ] at z0 z1
  go_wp2_with (go_at_call 45; refine (HA.out _).mono ?_; rintro e w1 ⟨rfl, hb1⟩; have HK1 := Lib.hid ((HKW.out.drewN nq).below hb1); have HB1 := Lib.hid (bl_thenA (bl_drewN HBW.out nq) hb1); have x0 := HK1.out.cell 0; have x1 := HK1.out.cell 1; have q0 := HK1.out.fr 0; have q1 := HK1.out.fr 1; simp only [List.getElem?_cons_zero, List.getElem?_cons_succ] at x0 x1; clear hb1)
  have g := ((HK1.out).set 0 (.int .i64 (0))).set 1 (.int .i64 (0))
  have g0 := g.cell 0
  have g1 := g.cell 1
  simp at g0 g1
  (try simp only [Exit.inBlock, Exit.then])
  refine bodyPost_ret (v := decV (.inl 2) k) ?_ rfl ⟨by rw [HJ.out], bl_s (bl_s (HB1.out) _ _ (Nat.le_refl _)) _ _ (Nat.le_refl _)⟩
  rw [results_ctt rfl]
  go_simp
  rfl
set_option maxRecDepth 100000 in
set_option maxHeartbeats 8000000 in
theorem rdec_zero (v : Value) (l : List UInt8) (k : Nat) (w : World) (hr : Reads Cd.byte.seq w v l) (hk : k < l.length) (hl : l.length ≤ 100000) (hx : ¬ ((l[k].toNat : Int) / 4 < 1 ∨ 38 ≤ (l[k].toNat : Int) / 4 ∨ l[k].toNat % 4 = 3 ∨ (0 < l[k].toNat % 4 ∧ hasA ((l[k].toNat : Int) / 4) = false)))
    (hm2 : (l[k].toNat : Int) % 4 = (0 : Nat)) :
    Calls Tryd.prog 40 #[v, .int .i64 k] w fun e w' => e = .returned (decV (decI (l.drop k)) k) ∧ Below w.heap.size w w' := by
  have HH := Lib.hid (head_of hx)
  have HM2 := Lib.hid hm2
  obtain ⟨A, hA⟩ : ∃ A : Int, 0 = A := ⟨_, rfl⟩
  have HG := Lib.hid (dec_at hk hx hm2 (by omega) (A := A) hA)
  have HJ : Hid (decI (l.drop k) = .inr (⟨(l[k].toNat : Int) / 4, 0⟩, 1 + 0)) := Lib.hid (by rw [HG.out, ← hA, if_neg (fun h => h.1 rfl)])
  clear hm2 hA HG
  obtain ⟨b, off, cap, hv, hcap, hblt, hcell⟩ := byte_open hr (by omega)
  subst hv
  have hc0 := hcell k hk
  have HX := Lib.hid hx
  clear hx
  obtain ⟨c, hc⟩ : ∃ c, l[k] = c := ⟨_, rfl⟩
  rw [hc] at hc0 HX
  have HCE := Lib.hid hc
  have hd : l.drop k = c :: l.drop (k + 1) := by rw [List.drop_eq_getElem_cons hk, hc]
  obtain ⟨n, hn⟩ : ∃ n, l.length = n := ⟨_, rfl⟩
  have hCb : (0 : Int) ≤ (c.toNat : Int) ∧ (c.toNat : Int) ≤ 255 := by have := c.toNat_lt; omega
  have HK := Lib.hid hk
  have HCL := Lib.hid hcell
  rw [hn] at hk hl hcap ⊢
  have HN := Lib.hid hn
  have HD := Lib.hid hd
  clear hn hd hcell hc hr
  obtain ⟨C, hC⟩ : ∃ C : Int, (c.toNat : Int) = C := ⟨_, rfl⟩
  rw [hC] at hc0 hCb HX
  have HC := Lib.hid hC
  clear hC
  have hk0 : (0 : Int) ≤ (k : Int) := by omega
  have hk1 : (k : Int) < (n : Int) := by omega
  have hM : C % 4 = 0 := by have := HM2.out; rw [HCE.out, HC.out] at this; exact this
  obtain ⟨O, hO⟩ : ∃ O, C / 4 = O := ⟨_, rfl⟩
  have hce := HCE.out
  have hcc := HC.out
  rw [HCE.out, HC.out, hO, hM] at HH
  obtain ⟨h1, h2, h3, h4, h5⟩ := HH.out
  have e1 : (O == 38) = false := by simp; omega
  clear hce hcc
  rw [HCE.out, HC.out, hO] at HJ
  clear h5
  have HSZ := Lib.hid (fun w => bytesC 0 w)
  rw [show needN 0 = 0 from rfl] at HSZ
  go_enter Tryd.func40, Tryd.ntmps40
  go_wp2_with fail
  obtain ⟨W, hW⟩ : ∃ W, w.alloc (.cells #[.int .i64 0, .int .i64 0] 37) = W := ⟨_, rfl⟩
  have HBW : Hid (Below w.heap.size w W) := Lib.hid (by rw [← hW]; exact bl_a (Below.refl _ _) _)
  have HKW : Hid (BK W w.heap.size [.int .i64 0, .int .i64 0] 37) := Lib.hid (by rw [← hW]; exact BK.new w _ _)
  have hcW : W.cell? ⟨b, off + k, none⟩ = some (.int .u8 C) := by rw [HBW.out.cell (p := ⟨b, off + k, none⟩) hblt]; exact hc0
  have HW := Lib.hid hW
  clear hW hc0
  rw [HW.out]
  go_quiet (fail)
  have z0 := HKW.out.cell 0
  have z1 := HKW.out.cell 1
  have y0 := HKW.out.fr 0
  have y1 := HKW.out.fr 1
  simp only [List.getElem?_cons_zero, List.getElem?_cons_succ] at z0 z1
  go_wp2_with (go_at_call 56; refine (HSZ.out _).mono ?_; rintro e w' ⟨rfl, rfl⟩)
  have g := ((HKW.out.drewN nq).set 0 (.int .i64 O)).set 1 (.int .i64 0)
  have g0 := g.cell 0
  have g1 := g.cell 1
  simp at g0 g1
  (try simp only [Exit.inBlock, Exit.then])
  refine bodyPost_ret (v := .tuple #[.agg #[.int .i64 O, .int .i64 0], .int .i64 ((k : Int) + 1), .int .i64 0]) ?_ rfl ⟨by rw [HJ.out, decV_ok _ _ _ _ ((k : Int) + 1) (by simp)], bl_s (bl_s (bl_drewN HBW.out nq) _ _ (Nat.le_refl _)) _ _ (Nat.le_refl _)⟩
  rw [results_ctt rfl]
  go_simp
end Go.Proofs.YtbcpopakdlplgaaDoor
namespace Go.Proofs.YtbcpopakdlplgaaDoor
open Go.RowKit Go.PlainAid
set_option linter.unusedVariables false
set_option linter.unusedSimpArgs false

set_option maxRecDepth 100000 in
set_option maxHeartbeats 8000000 in
theorem rdec_two (v : Value) (l : List UInt8) (k : Nat) (w : World) (hr : Reads Cd.byte.seq w v l) (hk : k < l.length) (hl : l.length ≤ 100000) (hx : ¬ ((l[k].toNat : Int) / 4 < 1 ∨ 38 ≤ (l[k].toNat : Int) / 4 ∨ l[k].toNat % 4 = 3 ∨ (0 < l[k].toNat % 4 ∧ hasA ((l[k].toNat : Int) / 4) = false)))
    (hm2 : (l[k].toNat : Int) % 4 = (2 : Nat)) (hs : k + 2 < l.length) :
    Calls Tryd.prog 40 #[v, .int .i64 k] w fun e w' => e = .returned (decV (decI (l.drop k)) k) ∧ Below w.heap.size w w' := by
  have HH := Lib.hid (head_of hx)
  have HS := Lib.hid hs
  have HM2 := Lib.hid hm2
  obtain ⟨A, hA⟩ : ∃ A, sg8 l[k + 1] * 256 + (l[k + 2].toNat : Int) = A := ⟨_, rfl⟩
  have HG := Lib.hid (dec_at hk hx hm2 hs (A := A) (by rw [take2 hs]; exact hA))
  have HWR : Hid (wr (256 * (l[k + 1].toNat : Int) + (l[k + 2].toNat : Int)) = A) := Lib.hid (by rw [← hA]; exact wrap_two _ _)
  have hAb : -32768 ≤ A ∧ A ≤ 32767 := by have := sg8_bd l[k + 1]; have := l[k + 2].toNat_lt; omega
  have hgb := sg8_bd l[k + 1]
  obtain ⟨D1, hD1⟩ : ∃ D : Int, (l[k + 1].toNat : Int) = D := ⟨_, rfl⟩
  obtain ⟨D2, hD2⟩ : ∃ D : Int, (l[k + 2].toNat : Int) = D := ⟨_, rfl⟩
  have hb1 : 0 ≤ D1 ∧ D1 ≤ 255 := by have := l[k + 1].toNat_lt; omega
  have hb2 : 0 ≤ D2 ∧ D2 ≤ 255 := by have := l[k + 2].toNat_lt; omega
  rw [hD1, hD2] at HWR
  have HD1 := Lib.hid hD1
  have HD2 := Lib.hid hD2
  clear hm2 hA hD1 hD2 hgb
  obtain ⟨b, off, cap, hv, hcap, hblt, hcell⟩ := byte_open hr (by omega)
  subst hv
  have hc0 := hcell k hk
  have HX := Lib.hid hx
  clear hx
  obtain ⟨c, hc⟩ : ∃ c, l[k] = c := ⟨_, rfl⟩
  rw [hc] at hc0 HX
  have HCE := Lib.hid hc
  have hd : l.drop k = c :: l.drop (k + 1) := by rw [List.drop_eq_getElem_cons hk, hc]
  obtain ⟨n, hn⟩ : ∃ n, l.length = n := ⟨_, rfl⟩
  have hCb : (0 : Int) ≤ (c.toNat : Int) ∧ (c.toNat : Int) ≤ 255 := by have := c.toNat_lt; omega
  have HK := Lib.hid hk
  have HCL := Lib.hid hcell
  rw [hn] at hk hl hcap ⊢
  have HN := Lib.hid hn
  have HD := Lib.hid hd
  clear hn hd hcell hc hr
  obtain ⟨C, hC⟩ : ∃ C : Int, (c.toNat : Int) = C := ⟨_, rfl⟩
  rw [hC] at hc0 hCb HX
  have HC := Lib.hid hC
  clear hC
  have hk0 : (0 : Int) ≤ (k : Int) := by omega
  have hk1 : (k : Int) < (n : Int) := by omega
  have hM : C % 4 = 2 := by have := HM2.out; rw [HCE.out, HC.out] at this; exact this
  obtain ⟨O, hO⟩ : ∃ O, C / 4 = O := ⟨_, rfl⟩
  have hce := HCE.out
  have hcc := HC.out
  rw [HCE.out, HC.out, hO, hM] at HH
  obtain ⟨h1, h2, h3, h4, h5⟩ := HH.out
  have e1 : (O == 38) = false := by simp; omega
  clear hce hcc
  have HA := Lib.hid (fun w => refHasC2 O true (h5 (by omega)) w)
  rw [HCE.out, HC.out, hO] at HG
  clear h5
  have hkn : k + 2 < n := by have := HS.out; rw [HN.out] at this; exact this
  go_enter Tryd.func40, Tryd.ntmps40
  go_wp2_with fail
  obtain ⟨W, hW⟩ : ∃ W, w.alloc (.cells #[.int .i64 0, .int .i64 0] 37) = W := ⟨_, rfl⟩
  have HBW : Hid (Below w.heap.size w W) := Lib.hid (by rw [← hW]; exact bl_a (Below.refl _ _) _)
  have HKW : Hid (BK W w.heap.size [.int .i64 0, .int .i64 0] 37) := Lib.hid (by rw [← hW]; exact BK.new w _ _)
  have hcW : W.cell? ⟨b, off + k, none⟩ = some (.int .u8 C) := by rw [HBW.out.cell (p := ⟨b, off + k, none⟩) hblt]; exact hc0
  have HW := Lib.hid hW
  clear hW hc0
  rw [HW.out]
  go_quiet (fail)
  have z0 := HKW.out.cell 0
  have z1 := HKW.out.cell 1
  have y0 := HKW.out.fr 0
  have y1 := HKW.out.fr 1
  simp only [List.getElem?_cons_zero, List.getElem?_cons_succ] at z0 z1
  go_wp2_with (go_at_call 45; refine (HA.out _).mono ?_; rintro e w1 ⟨rfl, hb1⟩; have HK1 := Lib.hid ((HKW.out.drewN nq).below hb1); have HB1 := Lib.hid (bl_thenA (bl_drewN HBW.out nq) hb1); have x0 := HK1.out.cell 0; have x1 := HK1.out.cell 1; have q0 := HK1.out.fr 0; have q1 := HK1.out.fr 1; simp only [List.getElem?_cons_zero, List.getElem?_cons_succ] at x0 x1; clear hb1; have hx1 : w1.cell? ⟨b, off + (k + 1), none⟩ = some (.int .u8 D1) := (by rw [HB1.out.cell (p := ⟨b, off + (k + 1), none⟩) hblt, ← HD1.out]; exact HCL.out (k + 1) (by rw [HN.out]; omega)); have hx2 : w1.cell? ⟨b, off + (k + 2), none⟩ = some (.int .u8 D2) := (by rw [HB1.out.cell (p := ⟨b, off + (k + 2), none⟩) hblt, ← HD2.out]; exact HCL.out (k + 2) (by rw [HN.out]; omega)))
  have a1 : IntKind.i64.wrap ((k : Int) + 1) = (k : Int) + 1 := IntWalk.i64_in _ (by omega)
  have a2 : IntKind.i64.wrap ((k : Int) + 2) = (k : Int) + 2 := IntWalk.i64_in _ (by omega)
  have a3 : (0 : Int) ≤ (k : Int) + 1 := by omega
  have a4 : (0 : Int) ≤ (k : Int) + 2 := by omega
  have a5 : (k : Int) + 1 < (n : Int) := by omega
  have a6 : (k : Int) + 2 < (n : Int) := by omega
  have a7 : ((k : Int) + 1).toNat = k + 1 := by omega
  have a8 : ((k : Int) + 2).toNat = k + 2 := by omega
  have a9 : IntKind.i64.wrap (256 * D1) = 256 * D1 := IntWalk.i64_in _ (by omega)
  have a10 : IntKind.i64.wrap (256 * D1 + D2) = 256 * D1 + D2 := IntWalk.i64_in _ (by omega)
  have HWC := Lib.hid (fun w => refWrap (256 * D1 + D2) w)
  rw [HWR.out] at HWC
  go_quiet ((go_at_call 55; exact Calls.quiet_of_same ((HWC.out _).mono fun _ _ ⟨a, b⟩ => ⟨a, b.symm⟩)))
  clear a1 a2 a3 a4 a5 a6 a7 a8 a9 a10
  have x0 := (HK1.out.drewN nq).cell 0
  obtain ⟨S, hS⟩ : ∃ S, needN A = S := ⟨_, rfl⟩
  have HSZ := Lib.hid (fun w => bytesC A w)
  rw [hS] at HSZ HG
  by_cases q1 : S = 2
  · have HJ : Hid (decI (l.drop k) = .inr (⟨O, A⟩, 1 + 2)) := Lib.hid (by rw [HG.out, if_neg (fun h => h.1 q1)])
    have HQ := Lib.hid q1
    subst q1
    clear hS
    go_wp2_with (go_at_call 56; refine (HSZ.out _).mono ?_; rintro e w' ⟨rfl, rfl⟩)
    have g := ((HK1.out.drewN nq).set 0 (.int .i64 (O))).set 1 (.int .i64 A)
    have g0 := g.cell 0
    have g1 := g.cell 1
    simp at g0 g1
    (try simp only [Exit.inBlock, Exit.then])
    refine bodyPost_ret (v := .tuple #[.agg #[.int .i64 (O), .int .i64 A], .int .i64 ((k : Int) + 1 + 2), .int .i64 0]) ?_ rfl ⟨by rw [HJ.out, decV_ok _ _ _ _ ((k : Int) + 1 + 2) (by simp)], bl_s (bl_s (bl_drewN HB1.out nq) _ _ (Nat.le_refl _)) _ _ (Nat.le_refl _)⟩
    rw [results_ctt rfl]
    go_simp
  · have p1 : ((2 : Int) != (S : Int)) = true := by simp; omega
    by_cases q2 : O = 24
    · have HJ : Hid (decI (l.drop k) = .inr (⟨O, A⟩, 1 + 2)) := Lib.hid (by rw [HG.out, if_neg (fun h => h.2.1 q2)])
      subst q2
      clear hS
      go_wp2_with (go_at_call 56; refine (HSZ.out _).mono ?_; rintro e w' ⟨rfl, rfl⟩)
      have g := ((HK1.out.drewN nq).set 0 (.int .i64 (24))).set 1 (.int .i64 A)
      have g0 := g.cell 0
      have g1 := g.cell 1
      simp at g0 g1
      (try simp only [Exit.inBlock, Exit.then])
      refine bodyPost_ret (v := .tuple #[.agg #[.int .i64 (24), .int .i64 A], .int .i64 ((k : Int) + 1 + 2), .int .i64 0]) ?_ rfl ⟨by rw [HJ.out, decV_ok _ _ _ _ ((k : Int) + 1 + 2) (by simp)], bl_s (bl_s (bl_drewN HB1.out nq) _ _ (Nat.le_refl _)) _ _ (Nat.le_refl _)⟩
      rw [results_ctt rfl]
      go_simp
    · have p2 : (O != 24) = true := by simp [q2]
      by_cases q3 : O = 25
      · have HJ : Hid (decI (l.drop k) = .inr (⟨O, A⟩, 1 + 2)) := Lib.hid (by rw [HG.out, if_neg (fun h => h.2.2 q3)])
        subst q3
        clear hS
        go_wp2_with (go_at_call 56; refine (HSZ.out _).mono ?_; rintro e w' ⟨rfl, rfl⟩)
        have g := ((HK1.out.drewN nq).set 0 (.int .i64 (25))).set 1 (.int .i64 A)
        have g0 := g.cell 0
        have g1 := g.cell 1
        simp at g0 g1
        (try simp only [Exit.inBlock, Exit.then])
        refine bodyPost_ret (v := .tuple #[.agg #[.int .i64 (25), .int .i64 A], .int .i64 ((k : Int) + 1 + 2), .int .i64 0]) ?_ rfl ⟨by rw [HJ.out, decV_ok _ _ _ _ ((k : Int) + 1 + 2) (by simp)], bl_s (bl_s (bl_drewN HB1.out nq) _ _ (Nat.le_refl _)) _ _ (Nat.le_refl _)⟩
        rw [results_ctt rfl]
        go_simp
      · have p3 : (O != 25) = true := by simp [q3]
        have HJ : Hid (decI (l.drop k) = .inl 4) := Lib.hid (by rw [HG.out, if_pos ⟨q1, q2, q3⟩])
        clear hS q1 q2 q3
        go_wp2_with (go_at_call 56; refine (HSZ.out _).mono ?_; rintro e w' ⟨rfl, rfl⟩)
        have g := ((HK1.out.drewN nq).set 0 (.int .i64 (0))).set 1 (.int .i64 (0))
        have g0 := g.cell 0
        have g1 := g.cell 1
        simp at g0 g1
        (try simp only [Exit.inBlock, Exit.then])
        refine bodyPost_ret (v := decV (.inl 4) k) ?_ rfl ⟨by rw [HJ.out], bl_s (bl_s (bl_drewN HB1.out nq) _ _ (Nat.le_refl _)) _ _ (Nat.le_refl _)⟩
        rw [results_ctt rfl]
        go_simp
        rfl
end Go.Proofs.YtbcpopakdlplgaaDoor
namespace Go.Proofs.YtbcpopakdlplgaaDoor
open Go.RowKit Go.PlainAid
set_option linter.unusedVariables false
set_option linter.unusedSimpArgs false

set_option maxRecDepth 100000 in
set_option maxHeartbeats 8000000 in
theorem rdec_one (v : Value) (l : List UInt8) (k : Nat) (w : World) (hr : Reads Cd.byte.seq w v l) (hk : k < l.length) (hl : l.length ≤ 100000) (hx : ¬ ((l[k].toNat : Int) / 4 < 1 ∨ 38 ≤ (l[k].toNat : Int) / 4 ∨ l[k].toNat % 4 = 3 ∨ (0 < l[k].toNat % 4 ∧ hasA ((l[k].toNat : Int) / 4) = false)))
    (hm2 : (l[k].toNat : Int) % 4 = (1 : Nat)) (hs : k + 1 < l.length) :
    Calls Tryd.prog 40 #[v, .int .i64 k] w fun e w' => e = .returned (decV (decI (l.drop k)) k) ∧ Below w.heap.size w w' := by
  have HH := Lib.hid (head_of hx)
  have HS := Lib.hid hs
  have HM2 := Lib.hid hm2
  obtain ⟨A, hA⟩ : ∃ A, sg8 l[k + 1] = A := ⟨_, rfl⟩
  have HG := Lib.hid (dec_at hk hx hm2 hs (A := A) (by rw [take1 hs]; exact hA))
  have HAE := Lib.hid hA
  have hAb : -128 ≤ A ∧ A ≤ 127 := by rw [← hA]; exact sg8_bd l[k + 1]
  obtain ⟨D1, hD1⟩ : ∃ D : Int, (l[k + 1].toNat : Int) = D := ⟨_, rfl⟩
  have hb1 : 0 ≤ D1 ∧ D1 ≤ 255 := by have := l[k + 1].toNat_lt; omega
  have HD1 := Lib.hid hD1
  clear hm2 hA hD1
  obtain ⟨b, off, cap, hv, hcap, hblt, hcell⟩ := byte_open hr (by omega)
  subst hv
  have hc0 := hcell k hk
  have HX := Lib.hid hx
  clear hx
  obtain ⟨c, hc⟩ : ∃ c, l[k] = c := ⟨_, rfl⟩
  rw [hc] at hc0 HX
  have HCE := Lib.hid hc
  have hd : l.drop k = c :: l.drop (k + 1) := by rw [List.drop_eq_getElem_cons hk, hc]
  obtain ⟨n, hn⟩ : ∃ n, l.length = n := ⟨_, rfl⟩
  have hCb : (0 : Int) ≤ (c.toNat : Int) ∧ (c.toNat : Int) ≤ 255 := by have := c.toNat_lt; omega
  have HK := Lib.hid hk
  have HCL := Lib.hid hcell
  rw [hn] at hk hl hcap ⊢
  have HN := Lib.hid hn
  have HD := Lib.hid hd
  clear hn hd hcell hc hr
  obtain ⟨C, hC⟩ : ∃ C : Int, (c.toNat : Int) = C := ⟨_, rfl⟩
  rw [hC] at hc0 hCb HX
  have HC := Lib.hid hC
  clear hC
  have hk0 : (0 : Int) ≤ (k : Int) := by omega
  have hk1 : (k : Int) < (n : Int) := by omega
  have hM : C % 4 = 1 := by have := HM2.out; rw [HCE.out, HC.out] at this; exact this
  obtain ⟨O, hO⟩ : ∃ O, C / 4 = O := ⟨_, rfl⟩
  have hce := HCE.out
  have hcc := HC.out
  rw [HCE.out, HC.out, hO, hM] at HH
  obtain ⟨h1, h2, h3, h4, h5⟩ := HH.out
  have e1 : (O == 38) = false := by simp; omega
  clear hce hcc
  have HA := Lib.hid (fun w => refHasC2 O true (h5 (by omega)) w)
  rw [HCE.out, HC.out, hO] at HG
  clear h5
  have hkn : k + 1 < n := by have := HS.out; rw [HN.out] at this; exact this
  go_enter Tryd.func40, Tryd.ntmps40
  go_wp2_with fail
  obtain ⟨W, hW⟩ : ∃ W, w.alloc (.cells #[.int .i64 0, .int .i64 0] 37) = W := ⟨_, rfl⟩
  have HBW : Hid (Below w.heap.size w W) := Lib.hid (by rw [← hW]; exact bl_a (Below.refl _ _) _)
  have HKW : Hid (BK W w.heap.size [.int .i64 0, .int .i64 0] 37) := Lib.hid (by rw [← hW]; exact BK.new w _ _)
  have hcW : W.cell? ⟨b, off + k, none⟩ = some (.int .u8 C) := by rw [HBW.out.cell (p := ⟨b, off + k, none⟩) hblt]; exact hc0
  have HW := Lib.hid hW
  clear hW hc0
  rw [HW.out]
  go_quiet (fail)
  have z0 := HKW.out.cell 0
  have z1 := HKW.out.cell 1
  have y0 := HKW.out.fr 0
  have y1 := HKW.out.fr 1
  simp only [List.getElem?_cons_zero, List.getElem?_cons_succ] at z0 z1
  have hsg : A = if D1 < 128 then D1 else D1 - 256 := by rw [← HAE.out, ← HD1.out]; rfl
  by_cases hneg : D1 < 128
  · have hA1 : A = D1 := by rw [hsg, if_pos hneg]
    subst hA1
    clear hsg
    go_wp2_with (go_at_call 45; refine (HA.out _).mono ?_; rintro e w1 ⟨rfl, hb1⟩; have HK1 := Lib.hid ((HKW.out.drewN nq).below hb1); have HB1 := Lib.hid (bl_thenA (bl_drewN HBW.out nq) hb1); have x0 := HK1.out.cell 0; have x1 := HK1.out.cell 1; have q0 := HK1.out.fr 0; have q1 := HK1.out.fr 1; simp only [List.getElem?_cons_zero, List.getElem?_cons_succ] at x0 x1; clear hb1; have hx1 : w1.cell? ⟨b, off + (k + 1), none⟩ = some (.int .u8 A) := (by rw [HB1.out.cell (p := ⟨b, off + (k + 1), none⟩) hblt, ← HD1.out]; exact HCL.out (k + 1) (by rw [HN.out]; omega)))
    obtain ⟨S, hS⟩ : ∃ S, needN A = S := ⟨_, rfl⟩
    have HSZ := Lib.hid (fun w => bytesC A w)
    rw [hS] at HSZ HG
    by_cases q1 : S = 1
    · have HJ : Hid (decI (l.drop k) = .inr (⟨O, A⟩, 1 + 1)) := Lib.hid (by rw [HG.out, if_neg (fun h => h.1 q1)])
      have HQ := Lib.hid q1
      subst q1
      clear hS
      go_wp2_with (go_at_call 56; refine (HSZ.out _).mono ?_; rintro e w' ⟨rfl, rfl⟩)
      have g := ((HK1.out).set 0 (.int .i64 (O))).set 1 (.int .i64 A)
      have g0 := g.cell 0
      have g1 := g.cell 1
      simp at g0 g1
      (try simp only [Exit.inBlock, Exit.then])
      refine bodyPost_ret (v := .tuple #[.agg #[.int .i64 (O), .int .i64 A], .int .i64 ((k : Int) + 1 + 1), .int .i64 0]) ?_ rfl ⟨by rw [HJ.out, decV_ok _ _ _ _ ((k : Int) + 1 + 1) (by simp)], bl_s (bl_s (HB1.out) _ _ (Nat.le_refl _)) _ _ (Nat.le_refl _)⟩
      rw [results_ctt rfl]
      go_simp
    · have p1 : ((1 : Int) != (S : Int)) = true := by simp; omega
      by_cases q2 : O = 24
      · have HJ : Hid (decI (l.drop k) = .inr (⟨O, A⟩, 1 + 1)) := Lib.hid (by rw [HG.out, if_neg (fun h => h.2.1 q2)])
        subst q2
        clear hS
        go_wp2_with (go_at_call 56; refine (HSZ.out _).mono ?_; rintro e w' ⟨rfl, rfl⟩)
        have g := ((HK1.out).set 0 (.int .i64 (24))).set 1 (.int .i64 A)
        have g0 := g.cell 0
        have g1 := g.cell 1
        simp at g0 g1
        (try simp only [Exit.inBlock, Exit.then])
        refine bodyPost_ret (v := .tuple #[.agg #[.int .i64 (24), .int .i64 A], .int .i64 ((k : Int) + 1 + 1), .int .i64 0]) ?_ rfl ⟨by rw [HJ.out, decV_ok _ _ _ _ ((k : Int) + 1 + 1) (by simp)], bl_s (bl_s (HB1.out) _ _ (Nat.le_refl _)) _ _ (Nat.le_refl _)⟩
        rw [results_ctt rfl]
        go_simp
      · have p2 : (O != 24) = true := by simp [q2]
        by_cases q3 : O = 25
        · have HJ : Hid (decI (l.drop k) = .inr (⟨O, A⟩, 1 + 1)) := Lib.hid (by rw [HG.out, if_neg (fun h => h.2.2 q3)])
          subst q3
          clear hS
          go_wp2_with (go_at_call 56; refine (HSZ.out _).mono ?_; rintro e w' ⟨rfl, rfl⟩)
          have g := ((HK1.out).set 0 (.int .i64 (25))).set 1 (.int .i64 A)
          have g0 := g.cell 0
          have g1 := g.cell 1
          simp at g0 g1
          (try simp only [Exit.inBlock, Exit.then])
          refine bodyPost_ret (v := .tuple #[.agg #[.int .i64 (25), .int .i64 A], .int .i64 ((k : Int) + 1 + 1), .int .i64 0]) ?_ rfl ⟨by rw [HJ.out, decV_ok _ _ _ _ ((k : Int) + 1 + 1) (by simp)], bl_s (bl_s (HB1.out) _ _ (Nat.le_refl _)) _ _ (Nat.le_refl _)⟩
          rw [results_ctt rfl]
          go_simp
        · have p3 : (O != 25) = true := by simp [q3]
          have HJ : Hid (decI (l.drop k) = .inl 4) := Lib.hid (by rw [HG.out, if_pos ⟨q1, q2, q3⟩])
          clear hS q1 q2 q3
          go_wp2_with (go_at_call 56; refine (HSZ.out _).mono ?_; rintro e w' ⟨rfl, rfl⟩)
          have g := ((HK1.out).set 0 (.int .i64 (0))).set 1 (.int .i64 (0))
          have g0 := g.cell 0
          have g1 := g.cell 1
          simp at g0 g1
          (try simp only [Exit.inBlock, Exit.then])
          refine bodyPost_ret (v := decV (.inl 4) k) ?_ rfl ⟨by rw [HJ.out], bl_s (bl_s (HB1.out) _ _ (Nat.le_refl _)) _ _ (Nat.le_refl _)⟩
          rw [results_ctt rfl]
          go_simp
          rfl
  · have hA1 : A = D1 - 256 := by rw [hsg, if_neg hneg]
    have HA1 := Lib.hid hA1
    have hneg' : 128 ≤ D1 := by omega
    rw [hA1] at HG hAb
    clear hsg hA1 hneg
    obtain ⟨A, hA0⟩ : ∃ x, D1 - 256 = x := ⟨_, rfl⟩
    rw [hA0] at HG hAb
    go_wp2_with (go_at_call 45; refine (HA.out _).mono ?_; rintro e w1 ⟨rfl, hb1⟩; have HK1 := Lib.hid ((HKW.out.drewN nq).below hb1); have HB1 := Lib.hid (bl_thenA (bl_drewN HBW.out nq) hb1); have x0 := HK1.out.cell 0; have x1 := HK1.out.cell 1; have q0 := HK1.out.fr 0; have q1 := HK1.out.fr 1; simp only [List.getElem?_cons_zero, List.getElem?_cons_succ] at x0 x1; clear hb1; have hx1 : w1.cell? ⟨b, off + (k + 1), none⟩ = some (.int .u8 D1) := (by rw [HB1.out.cell (p := ⟨b, off + (k + 1), none⟩) hblt, ← HD1.out]; exact HCL.out (k + 1) (by rw [HN.out]; omega)))
    obtain ⟨S, hS⟩ : ∃ S, needN A = S := ⟨_, rfl⟩
    have HSZ := Lib.hid (fun w => bytesC A w)
    rw [hS] at HSZ HG
    by_cases q1 : S = 1
    · have HJ : Hid (decI (l.drop k) = .inr (⟨O, A⟩, 1 + 1)) := Lib.hid (by rw [HG.out, if_neg (fun h => h.1 q1)])
      have HQ := Lib.hid q1
      subst q1
      clear hS
      go_wp2_with (go_at_call 56; refine (HSZ.out _).mono ?_; rintro e w' ⟨rfl, rfl⟩)
      have g := ((HK1.out).set 0 (.int .i64 (O))).set 1 (.int .i64 A)
      have g0 := g.cell 0
      have g1 := g.cell 1
      simp at g0 g1
      (try simp only [Exit.inBlock, Exit.then])
      refine bodyPost_ret (v := .tuple #[.agg #[.int .i64 (O), .int .i64 A], .int .i64 ((k : Int) + 1 + 1), .int .i64 0]) ?_ rfl ⟨by rw [HJ.out, decV_ok _ _ _ _ ((k : Int) + 1 + 1) (by simp)], bl_s (bl_s (HB1.out) _ _ (Nat.le_refl _)) _ _ (Nat.le_refl _)⟩
      rw [results_ctt rfl]
      go_simp
    · have p1 : ((1 : Int) != (S : Int)) = true := by simp; omega
      by_cases q2 : O = 24
      · have HJ : Hid (decI (l.drop k) = .inr (⟨O, A⟩, 1 + 1)) := Lib.hid (by rw [HG.out, if_neg (fun h => h.2.1 q2)])
        subst q2
        clear hS
        go_wp2_with (go_at_call 56; refine (HSZ.out _).mono ?_; rintro e w' ⟨rfl, rfl⟩)
        have g := ((HK1.out).set 0 (.int .i64 (24))).set 1 (.int .i64 A)
        have g0 := g.cell 0
        have g1 := g.cell 1
        simp at g0 g1
        (try simp only [Exit.inBlock, Exit.then])
        refine bodyPost_ret (v := .tuple #[.agg #[.int .i64 (24), .int .i64 A], .int .i64 ((k : Int) + 1 + 1), .int .i64 0]) ?_ rfl ⟨by rw [HJ.out, decV_ok _ _ _ _ ((k : Int) + 1 + 1) (by simp)], bl_s (bl_s (HB1.out) _ _ (Nat.le_refl _)) _ _ (Nat.le_refl _)⟩
        rw [results_ctt rfl]
        go_simp
      · have p2 : (O != 24) = true := by simp [q2]
        by_cases q3 : O = 25
        · have HJ : Hid (decI (l.drop k) = .inr (⟨O, A⟩, 1 + 1)) := Lib.hid (by rw [HG.out, if_neg (fun h => h.2.2 q3)])
          subst q3
          clear hS
          go_wp2_with (go_at_call 56; refine (HSZ.out _).mono ?_; rintro e w' ⟨rfl, rfl⟩)
          have g := ((HK1.out).set 0 (.int .i64 (25))).set 1 (.int .i64 A)
          have g0 := g.cell 0
          have g1 := g.cell 1
          simp at g0 g1
          (try simp only [Exit.inBlock, Exit.then])
          refine bodyPost_ret (v := .tuple #[.agg #[.int .i64 (25), .int .i64 A], .int .i64 ((k : Int) + 1 + 1), .int .i64 0]) ?_ rfl ⟨by rw [HJ.out, decV_ok _ _ _ _ ((k : Int) + 1 + 1) (by simp)], bl_s (bl_s (HB1.out) _ _ (Nat.le_refl _)) _ _ (Nat.le_refl _)⟩
          rw [results_ctt rfl]
          go_simp
        · have p3 : (O != 25) = true := by simp [q3]
          have HJ : Hid (decI (l.drop k) = .inl 4) := Lib.hid (by rw [HG.out, if_pos ⟨q1, q2, q3⟩])
          clear hS q1 q2 q3
          go_wp2_with (go_at_call 56; refine (HSZ.out _).mono ?_; rintro e w' ⟨rfl, rfl⟩)
          have g := ((HK1.out).set 0 (.int .i64 (0))).set 1 (.int .i64 (0))
          have g0 := g.cell 0
          have g1 := g.cell 1
          simp at g0 g1
          (try simp only [Exit.inBlock, Exit.then])
          refine bodyPost_ret (v := decV (.inl 4) k) ?_ rfl ⟨by rw [HJ.out], bl_s (bl_s (HB1.out) _ _ (Nat.le_refl _)) _ _ (Nat.le_refl _)⟩
          rw [results_ctt rfl]
          go_simp
          rfl
theorem rdecC (v : Value) (l : List UInt8) (k : Nat) (w : World) (hr : Reads Cd.byte.seq w v l) (hk : k < l.length) (hl : l.length ≤ 100000) :
    Calls Tryd.prog 40 #[v, .int .i64 k] w fun e w' => e = .returned (decV (decI (l.drop k)) k) ∧ Below w.heap.size w w' := by
  by_cases hx : (l[k].toNat : Int) / 4 < 1 ∨ 38 ≤ (l[k].toNat : Int) / 4 ∨ l[k].toNat % 4 = 3 ∨ (0 < l[k].toNat % 4 ∧ hasA ((l[k].toNat : Int) / 4) = false)
  · exact rdec_head v l k w hr hk hl hx
  · by_cases hs : l.length < k + 1 + l[k].toNat % 4
    · exact rdec_shorts v l k w hr hk hl hx hs
    · have h3 : l[k].toNat % 4 ≠ 3 := fun h => hx (.inr (.inr (.inl h)))
      have h4 : l[k].toNat % 4 = 0 ∨ l[k].toNat % 4 = 1 ∨ l[k].toNat % 4 = 2 := by omega
      rcases h4 with h4 | h4 | h4
      · exact rdec_zero v l k w hr hk hl hx (by omega)
      · exact rdec_one v l k w hr hk hl hx (by omega) (by omega)
      · exact rdec_two v l k w hr hk hl hx (by omega) (by omega)
end Go.Proofs.YtbcpopakdlplgaaDoor
