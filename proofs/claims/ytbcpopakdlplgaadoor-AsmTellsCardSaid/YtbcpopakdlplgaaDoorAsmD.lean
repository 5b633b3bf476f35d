/- Contract of op.Decode. -/
import Derived.Test.YtbcpopakdlplgaaDoorAsmE2
import Derived.IntWalk
namespace Go.Proofs.YtbcpopakdlplgaaDoor
open Go.RowKit Go.PlainAid
set_option linter.unusedVariables false
set_option linter.unusedSimpArgs false

theorem or_256 (a c : Int) (ha : -128 ≤ a ∧ a ≤ 127) (hc : 0 ≤ c ∧ c < 256) : bits .or .i64 (a * 256) c = a * 256 + c := by
  unfold bits
  simp only [BitVec.toNat_or, BitVec.toNat_ofInt]
  have e0 : IntKind.i64.bits = 64 := rfl
  rw [e0]
  have e1 : ((a * 256) % ((2 ^ 64 : Nat) : Int)).toNat = 2 ^ 8 * ((a % 72057594037927936).toNat) := by omega
  have e2 : (c % ((2 ^ 64 : Nat) : Int)).toNat = c.toNat := by omega
  rw [e1, e2, ← Nat.two_pow_add_eq_or_of_lt (by omega : c.toNat < 2 ^ 8)]
  rw [IntKind.wrap_i64]
  omega
/-- What Decode answers. -/
def decV (r : Int ⊕ (IN × Nat)) (k : Nat) : Value := match r with
  | .inl e => .tuple #[.agg #[.int .i64 0, .int .i64 0], .int .i64 0, .int .i64 e]
  | .inr p => .tuple #[insV p.1, .int .i64 ((k + p.2 : Nat) : Int), .int .i64 0]
theorem results_ctt {fn : Func} {p u q : Tmp} {ty : TypeId} (h : fn.results = #[.cell p ty, .tmp u, .tmp q]) (tmps : Array Value) (P : Program) (w : World) :
    (results fn tmps).run P w = ((asAddr (tmps.getD p undef)).run P w).andThen fun a w₁ => ((loadVar ty a).run P w₁).andThen fun v w₂ => .ok (.tuple #[v, tmps.getD u undef, tmps.getD q undef]) w₂ := by
  simp only [results, h]
  simp [Sem.run_bind, Result.andThen]
def zeroI : Value := .agg #[.int .i64 0, .int .i64 0]
/-! The reading, by cases. -/
theorem dec_bad {c : UInt8} {t : List UInt8} (h : (c.toNat : Int) / 4 < 1 ∨ 38 ≤ (c.toNat : Int) / 4 ∨ c.toNat % 4 = 3 ∨ (0 < c.toNat % 4 ∧ hasA ((c.toNat : Int) / 4) = false)) : decI (c :: t) = .inl 16 := by
  rw [decI, if_pos h]
theorem dec_short {c : UInt8} {t : List UInt8} (h : ¬ ((c.toNat : Int) / 4 < 1 ∨ 38 ≤ (c.toNat : Int) / 4 ∨ c.toNat % 4 = 3 ∨ (0 < c.toNat % 4 ∧ hasA ((c.toNat : Int) / 4) = false))) (h2 : t.length < c.toNat % 4) : decI (c :: t) = .inl 2 := by
  rw [decI, if_neg h, if_pos h2]
theorem dec_form {c : UInt8} {t : List UInt8} (h : ¬ ((c.toNat : Int) / 4 < 1 ∨ 38 ≤ (c.toNat : Int) / 4 ∨ c.toNat % 4 = 3 ∨ (0 < c.toNat % 4 ∧ hasA ((c.toNat : Int) / 4) = false))) (h2 : ¬ t.length < c.toNat % 4)
    (h3 : needN (valB (t.take (c.toNat % 4))) ≠ c.toNat % 4 ∧ (c.toNat : Int) / 4 ≠ 24 ∧ (c.toNat : Int) / 4 ≠ 25) : decI (c :: t) = .inl 4 := by
  rw [decI, if_neg h, if_neg h2, if_pos h3]
theorem dec_good {c : UInt8} {t : List UInt8} (h : ¬ ((c.toNat : Int) / 4 < 1 ∨ 38 ≤ (c.toNat : Int) / 4 ∨ c.toNat % 4 = 3 ∨ (0 < c.toNat % 4 ∧ hasA ((c.toNat : Int) / 4) = false))) (h2 : ¬ t.length < c.toNat % 4)
    (h3 : ¬ (needN (valB (t.take (c.toNat % 4))) ≠ c.toNat % 4 ∧ (c.toNat : Int) / 4 ≠ 24 ∧ (c.toNat : Int) / 4 ≠ 25)) : decI (c :: t) = .inr (⟨(c.toNat : Int) / 4, valB (t.take (c.toNat % 4))⟩, 1 + c.toNat % 4) := by
  rw [decI, if_neg h, if_neg h2, if_neg h3]
set_option maxRecDepth 100000 in
set_option maxHeartbeats 8000000 in
theorem dec_head (v : Value) (l : List UInt8) (k : Nat) (w : World) (hr : Reads Cd.byte.seq w v l) (hk : k < l.length) (hl : l.length ≤ 100000) (hx : (l[k].toNat : Int) / 4 < 1 ∨ 38 ≤ (l[k].toNat : Int) / 4 ∨ l[k].toNat % 4 = 3 ∨ (0 < l[k].toNat % 4 ∧ hasA ((l[k].toNat : Int) / 4) = false)) :
    Calls Tryd.prog 20 #[v, .int .i64 k] w fun e w' => e = .returned (decV (decI (l.drop k)) k) ∧ Below w.heap.size w w' := by
  have HJ : Hid (decI (l.drop k) = .inl 16) := Lib.hid (by rw [List.drop_eq_getElem_cons hk]; exact dec_bad hx)
  obtain ⟨b, off, cap, hv, hcap, hblt, hcell⟩ := byte_open hr (by omega)
  subst hv
  have hc0 := hcell k hk
  have HX := Lib.hid hx
  clear hx
  obtain ⟨c, hc⟩ : ∃ c, l[k] = c := ⟨_, rfl⟩
  rw [hc] at hc0 HX
  have hd : l.drop k = c :: l.drop (k + 1) := by rw [List.drop_eq_getElem_cons hk, hc]
  obtain ⟨n, hn⟩ : ∃ n, l.length = n := ⟨_, rfl⟩
  have hCb : (0 : Int) ≤ (c.toNat : Int) ∧ (c.toNat : Int) ≤ 255 := by have := c.toNat_lt; omega
  have HK := Lib.hid hk
  have HCL := Lib.hid hcell
  rw [hn] at hk hl hcap ⊢
  have HN := Lib.hid hn
  have HD := Lib.hid hd
  clear hn hd hcell hc hr
  obtain ⟨C, hC⟩ : ∃ C : Int, (c.toNat : Int) = C := ⟨_, rfl⟩
  rw [hC] at hc0 hCb HX
  have HC := Lib.hid hC
  clear hC
  have hk0 : (0 : Int) ≤ (k : Int) := by omega
  have hk1 : (k : Int) < (n : Int) := by omega
  obtain ⟨O, hO⟩ : ∃ O, C / 4 = O := ⟨_, rfl⟩
  obtain ⟨M, hM⟩ : ∃ M, C % 4 = M := ⟨_, rfl⟩
  by_cases h1 : 1 ≤ O ∧ O ≤ 38
  · by_cases h2 : O = 38
    · subst h2
      go_enter Tryd.func20, Tryd.ntmps20
      go_wp2_with (first | (go_at_call 47; refine (amongC _ _ _ _).mono ?_; rintro e w' ⟨rfl, rfl⟩))
      obtain ⟨W, hW⟩ : ∃ W, w.alloc (.cells #[.int .i64 0, .int .i64 0] 37) = W := ⟨_, rfl⟩
      have HBW : Hid (Below w.heap.size w W) := Lib.hid (by rw [← hW]; exact bl_a (Below.refl _ _) _)
      have HKW : Hid (BK W w.heap.size [.int .i64 0, .int .i64 0] 37) := Lib.hid (by rw [← hW]; exact BK.new w _ _)
      have hcW : W.cell? ⟨b, off + k, none⟩ = some (.int .u8 C) := by rw [HBW.out.cell (p := ⟨b, off + k, none⟩) hblt]; exact hc0
      have HW := Lib.hid hW
      clear hW hc0
      rw [HW.out]
      go_quiet (fail)
      have z0 := HKW.out.cell 0
      have z1 := HKW.out.cell 1
      have y0 := HKW.out.fr 0
      have y1 := HKW.out.fr 1
      simp only [List.getElem?_cons_zero, List.getElem?_cons_succ] at z0 z1
      go_wp2_with (first | (go_at_call 48; refine (knownY _ _ (by omega) (by omega)).mono ?_; rintro e w' ⟨rfl, rfl⟩))
      have g := ((HKW.out.drewN nq).set 0 (.int .i64 (0))).set 1 (.int .i64 (0))
      have g0 := g.cell 0
      have g1 := g.cell 1
      simp at g0 g1
      (try simp only [Exit.inBlock, Exit.then])
      refine bodyPost_ret (v := decV (.inl 16) k) ?_ rfl ⟨by rw [HJ.out], bl_s (bl_s (bl_drewN HBW.out nq) _ _ (Nat.le_refl _)) _ _ (Nat.le_refl _)⟩
      rw [results_ctt rfl]
      go_simp
      rfl
    · have h3 : (O == 38) = false := by simp [h2]
      by_cases h4 : M = 3
      · subst h4
        go_enter Tryd.func20, Tryd.ntmps20
        go_wp2_with (first | (go_at_call 47; refine (amongC _ _ _ _).mono ?_; rintro e w' ⟨rfl, rfl⟩))
        obtain ⟨W, hW⟩ : ∃ W, w.alloc (.cells #[.int .i64 0, .int .i64 0] 37) = W := ⟨_, rfl⟩
        have HBW : Hid (Below w.heap.size w W) := Lib.hid (by rw [← hW]; exact bl_a (Below.refl _ _) _)
        have HKW : Hid (BK W w.heap.size [.int .i64 0, .int .i64 0] 37) := Lib.hid (by rw [← hW]; exact BK.new w _ _)
        have hcW : W.cell? ⟨b, off + k, none⟩ = some (.int .u8 C) := by rw [HBW.out.cell (p := ⟨b, off + k, none⟩) hblt]; exact hc0
        have HW := Lib.hid hW
        clear hW hc0
        rw [HW.out]
        go_quiet (fail)
        have z0 := HKW.out.cell 0
        have z1 := HKW.out.cell 1
        have y0 := HKW.out.fr 0
        have y1 := HKW.out.fr 1
        simp only [List.getElem?_cons_zero, List.getElem?_cons_succ] at z0 z1
        go_wp2_with (first | (go_at_call 48; refine (knownY _ _ (by omega) (by omega)).mono ?_; rintro e w' ⟨rfl, rfl⟩))
        have g := ((HKW.out.drewN nq).set 0 (.int .i64 (0))).set 1 (.int .i64 (0))
        have g0 := g.cell 0
        have g1 := g.cell 1
        simp at g0 g1
        (try simp only [Exit.inBlock, Exit.then])
        refine bodyPost_ret (v := decV (.inl 16) k) ?_ rfl ⟨by rw [HJ.out], bl_s (bl_s (bl_drewN HBW.out nq) _ _ (Nat.le_refl _)) _ _ (Nat.le_refl _)⟩
        rw [results_ctt rfl]
        go_simp
        rfl
      · have h5 : (M == 3) = false := by simp [h4]
        have h6 : 0 < M ∧ hasA O = false := by
          rw [← hM, ← hO]
          rcases HX.out with h | h | h | h
          · omega
          · omega
          · exfalso; apply h4; have := HC.out; omega
          · exact ⟨by have := HC.out; omega, h.2⟩
        obtain ⟨h7, h8⟩ := h6
        have HA := Lib.hid (fun w => hasC2 O false h8 w)
        clear h8 h4 h2
        go_enter Tryd.func20, Tryd.ntmps20
        go_wp2_with (first | (go_at_call 47; refine (amongC _ _ _ _).mono ?_; rintro e w' ⟨rfl, rfl⟩))
        obtain ⟨W, hW⟩ : ∃ W, w.alloc (.cells #[.int .i64 0, .int .i64 0] 37) = W := ⟨_, rfl⟩
        have HBW : Hid (Below w.heap.size w W) := Lib.hid (by rw [← hW]; exact bl_a (Below.refl _ _) _)
        have HKW : Hid (BK W w.heap.size [.int .i64 0, .int .i64 0] 37) := Lib.hid (by rw [← hW]; exact BK.new w _ _)
        have hcW : W.cell? ⟨b, off + k, none⟩ = some (.int .u8 C) := by rw [HBW.out.cell (p := ⟨b, off + k, none⟩) hblt]; exact hc0
        have HW := Lib.hid hW
        clear hW hc0
        rw [HW.out]
        go_quiet (fail)
        have z0 := HKW.out.cell 0
        have z1 := HKW.out.cell 1
        have y0 := HKW.out.fr 0
        have y1 := HKW.out.fr 1
        simp only [List.getElem?_cons_zero, List.getElem?_cons_succ] at z0 z1
        go_wp2_with (first | (go_at_call 48; refine (knownY _ _ (by omega) (by omega)).mono ?_; rintro e w' ⟨rfl, rfl⟩) | (go_at_call 42; refine (HA.out _).mono ?_; rintro e w1 ⟨rfl, hb1⟩; have HK1 := Lib.hid ((HKW.out.drewN nq).below hb1); have HB1 := Lib.hid (bl_thenA (bl_drewN HBW.out nq) hb1); have x0 := HK1.out.cell 0; have x1 := HK1.out.cell 1; have q0 := HK1.out.fr 0; have q1 := HK1.out.fr 1; simp only [List.getElem?_cons_zero, List.getElem?_cons_succ] at x0 x1; clear hb1))
        have g := ((HK1.out).set 0 (.int .i64 (0))).set 1 (.int .i64 (0))
        have g0 := g.cell 0
        have g1 := g.cell 1
        simp at g0 g1
        (try simp only [Exit.inBlock, Exit.then])
        refine bodyPost_ret (v := decV (.inl 16) k) ?_ rfl ⟨by rw [HJ.out], bl_s (bl_s (HB1.out) _ _ (Nat.le_refl _)) _ _ (Nat.le_refl _)⟩
        rw [results_ctt rfl]
        go_simp
        rfl
  · go_enter Tryd.func20, Tryd.ntmps20
    go_wp2_with (first | (go_at_call 47; refine (amongC _ _ _ _).mono ?_; rintro e w' ⟨rfl, rfl⟩))
    obtain ⟨W, hW⟩ : ∃ W, w.alloc (.cells #[.int .i64 0, .int .i64 0] 37) = W := ⟨_, rfl⟩
    have HBW : Hid (Below w.heap.size w W) := Lib.hid (by rw [← hW]; exact bl_a (Below.refl _ _) _)
    have HKW : Hid (BK W w.heap.size [.int .i64 0, .int .i64 0] 37) := Lib.hid (by rw [← hW]; exact BK.new w _ _)
    have hcW : W.cell? ⟨b, off + k, none⟩ = some (.int .u8 C) := by rw [HBW.out.cell (p := ⟨b, off + k, none⟩) hblt]; exact hc0
    have HW := Lib.hid hW
    clear hW hc0
    rw [HW.out]
    go_quiet (fail)
    have z0 := HKW.out.cell 0
    have z1 := HKW.out.cell 1
    have y0 := HKW.out.fr 0
    have y1 := HKW.out.fr 1
    simp only [List.getElem?_cons_zero, List.getElem?_cons_succ] at z0 z1
    go_wp2_with (first | (go_at_call 48; refine (knownN _ _ h1).mono ?_; rintro e w' ⟨rfl, rfl⟩))
    have g := ((HKW.out.drewN nq).set 0 (.int .i64 (0))).set 1 (.int .i64 (0))
    have g0 := g.cell 0
    have g1 := g.cell 1
    simp at g0 g1
    (try simp only [Exit.inBlock, Exit.then])
    refine bodyPost_ret (v := decV (.inl 16) k) ?_ rfl ⟨by rw [HJ.out], bl_s (bl_s (bl_drewN HBW.out nq) _ _ (Nat.le_refl _)) _ _ (Nat.le_refl _)⟩
    rw [results_ctt rfl]
    go_simp
    rfl
end Go.Proofs.YtbcpopakdlplgaaDoor
