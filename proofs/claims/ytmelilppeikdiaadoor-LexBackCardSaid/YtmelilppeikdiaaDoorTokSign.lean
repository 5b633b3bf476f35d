/- The reader's sign. -/
import Derived.Test.YtmelilppeikdiaaDoorTokNum
import Derived.Test.YtmelilppeikdiaaDoorShelf
import Derived.IntWalk
import Derived.Deep.RegionHeld3
namespace Go.Proofs.YtmelilppeikdiaaDoor
open Go.RowKit Go.PlainAid

/-- Five cells of a block, none frozen. -/
structure Row5 (w : World) (k : Nat) (a b c d e : Value) : Prop where
  blk : k < w.heap.size
  c0 : w.cell? ⟨k, 0, none⟩ = some a
  c1 : w.cell? ⟨k, 1, none⟩ = some b
  c2 : w.cell? ⟨k, 2, none⟩ = some c
  c3 : w.cell? ⟨k, 3, none⟩ = some d
  c4 : w.cell? ⟨k, 4, none⟩ = some e
  z : ∀ o, w.frozen? ⟨k, o, none⟩ = false
theorem Row5.kept {w w' : World} {k R : Nat} {a b c d e : Value} (h : Row5 w k a b c d e) (hg : w.grownBy w' (some R)) (hk : k ≠ R) : Row5 w' k a b c d e := by
  have hk := hg.block k h.blk (by simp; exact hk)
  have hc : ∀ o, w'.cell? ⟨k, o, none⟩ = w.cell? ⟨k, o, none⟩ := fun o => World.cell?_of_block (a := ⟨k, o, none⟩) hk
  have hz : ∀ o, w'.frozen? ⟨k, o, none⟩ = w.frozen? ⟨k, o, none⟩ := fun o => World.frozen?_of_block (a := ⟨k, o, none⟩) hk
  exact ⟨Nat.lt_of_lt_of_le h.blk hg.size, by rw [hc]; exact h.c0, by rw [hc]; exact h.c1, by rw [hc]; exact h.c2, by rw [hc]; exact h.c3, by rw [hc]; exact h.c4, fun o => by rw [hz]; exact h.z o⟩
theorem Row5.new (w : World) (a b c d e : Value) (T : TypeId) : Row5 (w.alloc (.cells #[a, b, c, d, e] T)) w.heap.size a b c d e :=
  ⟨by rw [World.size_alloc]; omega, by rw [World.cell?_alloc_mark]; rfl, by rw [World.cell?_alloc_mark]; rfl, by rw [World.cell?_alloc_mark]; rfl, by rw [World.cell?_alloc_mark]; rfl, by rw [World.cell?_alloc_mark]; rfl, fun o => by rw [World.frozen?_alloc_mark]; simp⟩

def ixC (l : List UInt8) (c : Int) : Int := Lib.indexByte l c.toNat.toUInt8
theorem ix4F : ∀ n : Fin 256, (0 ≤ Lib.indexByte [61, 33, 60, 62] n.val.toUInt8) ↔ (n.val = 61 ∨ n.val = 33 ∨ n.val = 60 ∨ n.val = 62) := by decide +kernel
theorem ix16F : ∀ n : Fin 256, (0 ≤ Lib.indexByte [40, 41, 123, 125, 44, 59, 46, 124, 47, 43, 45, 42, 37, 61, 60, 62] n.val.toUInt8) ↔ ((n.val : Int) ∈ signs1) := by decide +kernel
theorem ix4 {c : Int} (h : 0 ≤ c ∧ c ≤ 255) : (0 ≤ ixC [61, 33, 60, 62] c) ↔ (c = 61 ∨ c = 33 ∨ c = 60 ∨ c = 62) := by
  have := ix4F ⟨c.toNat, by omega⟩
  unfold ixC
  simp only at this
  rw [this]; omega
theorem ix16 {c : Int} (h : 0 ≤ c ∧ c ≤ 255) : (0 ≤ ixC [40, 41, 123, 125, 44, 59, 46, 124, 47, 43, 45, 42, 37, 61, 60, 62] c) ↔ (c ∈ signs1) := by
  have := ix16F ⟨c.toNat, by omega⟩
  unfold ixC
  simp only at this
  rw [this]
  have : ((c.toNat : Nat) : Int) = c := by omega
  rw [this]

theorem lexIx4 (c : Int) (w : World) : Calls Tryd.prog 43 #[.string ⟨#[61, 33, 60, 62]⟩, .int .u8 c] w fun e w' => e = .returned (.int .i64 (ixC [61, 33, 60, 62] c)) ∧ w' = w := Tryd.strings_IndexByte _ c w
theorem lexIx16 (c : Int) (w : World) : Calls Tryd.prog 43 #[.string ⟨#[40, 41, 123, 125, 44, 59, 46, 124, 47, 43, 45, 42, 37, 61, 60, 62]⟩, .int .u8 c] w fun e w' => e = .returned (.int .i64 (ixC [40, 41, 123, 125, 44, 59, 46, 124, 47, 43, 45, 42, 37, 61, 60, 62] c)) ∧ w' = w := Tryd.strings_IndexByte _ c w

theorem results_cell {fn : Func} {p : Tmp} {ty : TypeId} (h : fn.results = #[.cell p ty]) (tmps : Array Value) (P : Program) (w : World) :
    (results fn tmps).run P w = ((asAddr (tmps.getD p undef)).run P w).andThen fun a w₁ => (loadVar ty a).run P w₁ := by
  simp only [results, h]
  simp [Sem.run_bind, Result.andThen]

set_option maxHeartbeats 4000000 in
theorem lexSign (R : Nat) (s : ByteArray) (i : Nat) (w : World) (h : RD w R s i 0 0 0) (hlt : i < s.size) :
    Calls Tryd.prog 35 #[.pointer (some ⟨R, 0, none⟩)] w fun e' w' => ∃ v, e' = .returned v ∧ TokP w' R s i (signT (sfx s i)) v 0 ∧ w.grownBy w' (some R) := by
  have hblk := h.blk
  have hlim := h.lim
  have HR := Lib.hid (h.below (one_alloc w (.cells #[.int .i64 0, .string ⟨#[]⟩, .int .i64 0, .int .i64 0, .int .i64 0] 25)))
  have HRow0 := Lib.hid (Row5.new w (.int .i64 0) (.string ⟨#[]⟩) (.int .i64 0) (.int .i64 0) (.int .i64 0) 25)
  have HG0 := Lib.hid (World.grownBy_alloc w (.cells #[.int .i64 0, .string ⟨#[]⟩, .int .i64 0, .int .i64 0, .int .i64 0] 25) (some R))
  clear h
  have hcb : 0 ≤ bt s i ∧ bt s i ≤ 255 := ⟨bt_nonneg s i, bt_le s i⟩
  have H4 := Lib.hid (ix4 hcb)
  have H16 := Lib.hid (ix16 hcb)
  have hS : signL (sfx s i) = if bt s (i + 1) = 61 ∧ (bt s i = 61 ∨ bt s i = 33 ∨ bt s i = 60 ∨ bt s i = 62) then 2 else if bt s i ∈ signs1 then 1 else 0 := by
    unfold signL; rw [sfx_drop, hd_sfx, hd_sfx]
  have HS := Lib.hid hS
  clear hS
  go_enter Tryd.func35, Tryd.ntmps35
  go_wp2_with fail
  refine (lexPeek0 R s i 0 0 0 _ HR.out).mono ?_
  rintro e' w1 ⟨rfl, m1, rfl⟩
  go_wp2_with fail
  refine (lexPeek1 R s i 0 0 0 _ (HR.out.drewN _)).mono ?_
  rintro e' w1 ⟨rfl, m2, rfl⟩
  by_cases h61 : bt s (i + 1) = 61
  · by_cases h4 : bt s i = 61 ∨ bt s i = 33 ∨ bt s i = 60 ∨ bt s i = 62
    · have hi2 : i + 1 < s.size := by
        by_cases h : i + 1 < s.size
        · exact h
        · rw [bt_end s (by omega)] at h61; omega
      have HN := Lib.hid (HS.out.trans (if_pos ⟨h61, h4⟩))
      have h61' : (bt s (i + 1) == 61) = true := by simp [h61]
      have hge := H4.out.2 h4
      clear h61 h4
      go_wp2_with fail
      refine (lexIx4 _ _).mono ?_
      rintro e' w1 ⟨rfl, rfl⟩
      go_wp2_with fail
      obtain ⟨W1, hW1⟩ : ∃ W1, (w.alloc (.cells #[.int .i64 0, .string ⟨#[]⟩, .int .i64 0, .int .i64 0, .int .i64 0] 25)).drewN (m1 + m2) = W1 := ⟨_, rfl⟩
      rw [hW1]
      have HRx : Hid (RD W1 R s i 0 0 0) := Lib.hid (by rw [← hW1]; exact HR.out.drewN _)
      have HGx : Hid (w.grownBy W1 (some R)) := Lib.hid (by rw [← hW1]; exact gb_drewN HG0.out _)
      have HRow : Hid (Row5 W1 w.heap.size (.int .i64 0) (.string ⟨#[]⟩) (.int .i64 0) (.int .i64 0) (.int .i64 0)) := Lib.hid (by rw [← hW1]; exact HRow0.out.kept (R := R) (gb_drewN (gb_refl _ _) _) (by omega))
      have HX := Lib.hid (ext_sfx s i 2)
      have hq0 := HRx.out.c0
      have hq1 := HRx.out.c1
      have hqz : w.heap.size < W1.heap.size := HRow.out.blk
      have hs2 : (0 : Int) ≤ (i : Int) + 2 := by omega
      have hs3 : ((i : Int) + 2).toNat = i + 2 := by omega
      have hs4 : (i : Int) + 2 ≤ (s.size : Int) := by omega
      have hs5 : (i : Int) ≤ (i : Int) + 2 := by omega
      go_wp2_with fail
      have hs7 : (0 : Int) ≤ (i : Int) := by omega
      have hs8 : (i : Int) ≤ (s.size : Int) := by omega
      have hs9 : ((i : Int)).toNat = i := by omega
      have hs0 : -9223372036854775808 ≤ (i : Int) ∧ (i : Int) ≤ 9223372036854775807 := by omega
      have hs1 : IntKind.i64.wrap ((i : Int) + 2) = (i : Int) + 2 := IntWalk.i64_in _ (by omega)
      have hs6 : IntKind.i64.wrap (i : Int) = (i : Int) := IntWalk.i64_in _ hs0
      go_region_held3 (fun w' => w'.cell? ⟨R, 0, none⟩ = some (.string s) ∧ w'.cell? ⟨R, 1, none⟩ = some (.int .i64 i)) (first | go_keep) (first | fail)
      clear hs1 hs6 hs7 hs8 hs9 hs0 hq0 hq1
      obtain ⟨W2, hW2⟩ : ∃ W2, (W1.alloc (.cells #[.int .i64 5, .string (s.extract i (i + 2)), .int .i64 0, .int .i64 0, .int .i64 0] 25)).drew = W2 := ⟨_, rfl⟩
      rw [hW2]
      have HRy : Hid (RD W2 R s i 0 0 0) := Lib.hid (by rw [← hW2]; exact (HRx.out.below (one_alloc _ _)).drewN 1)
      have HGy : Hid (w.grownBy W2 (some R)) := Lib.hid (by rw [← hW2]; exact gb_drewN (gb_below HGx.out (one_alloc _ _)) 1)
      have HRowy : Hid (Row5 W2 w.heap.size (.int .i64 0) (.string ⟨#[]⟩) (.int .i64 0) (.int .i64 0) (.int .i64 0)) := Lib.hid (by rw [← hW2]; exact HRow.out.kept (R := R) (gb_drewN (gb_below (gb_refl _ _) (one_alloc _ _)) 1) (by omega))
      have HRowt : Hid (Row5 W2 W1.heap.size (.int .i64 5) (.string (s.extract i (i + 2))) (.int .i64 0) (.int .i64 0) (.int .i64 0)) := Lib.hid (by rw [← hW2]; exact (Row5.new W1 _ _ _ _ _ _).kept (R := R) (gb_drewN (gb_refl _ _) 1) (by omega))
      clear hW2
      go_wp2_with fail
      go_loopw [44] (fun c wr => ∃ k : Nat, k ≤ 2 ∧ c = .int .i64 k ∧ RD wr R s (i + k) 0 0 0 ∧ w.grownBy wr (some R) ∧ Row5 wr w.heap.size (.int .i64 0) (.string ⟨#[]⟩) (.int .i64 0) (.int .i64 0) (.int .i64 0) ∧ Row5 wr W1.heap.size (.int .i64 5) (.string (s.extract i (i + 2))) (.int .i64 0) (.int .i64 0) (.int .i64 0)) (fun c _ => 2 - (intOf c).toNat)
      case atStart => exact ⟨0, by omega, rfl, HRy.out, HGy.out, HRowy.out, HRowt.out⟩
      case round =>
        obtain ⟨k, hk, rfl, hRk, hGk, hA, hB⟩ := hrel
        by_cases hkn : k < 2
        · first
          | exact absurd hkn (by omega)
          | (go_wp2_with fail
             refine (lexStep R s (i + k) 0 0 0 _ hRk (by omega)).mono ?_
             rintro e' w5 ⟨rfl, hR5, hG5⟩
             go_wp2
             go_roundw
             case rel => exact ⟨k + 1, by omega, by go_num, hR5, gb_trans hGk hG5, hA.kept hG5 (by omega), hB.kept hG5 (by omega)⟩
             case measure => simp [intOf]; omega)
        · have hke : k = 2 := by omega
          have HRk : Hid (RD wr R s (i + 2) 0 0 0) := Lib.hid (by rw [← hke]; exact hRk)
          have HGk := Lib.hid hGk
          have hkk : 2 ≤ k := by omega
          obtain ⟨_, a0, a1, a2, a3, a4, az⟩ := hA
          obtain ⟨_, b0, b1, b2, b3, b4, bz⟩ := hB
          have az0 := az 0
          have az1 := az 1
          have az2 := az 2
          have az3 := az 3
          have az4 := az 4
          clear az bz hRk hGk hke
          go_wp2
          (try simp only [Exit.inBlock, Exit.then])
          refine bodyPost_ret (v := .agg #[.int .i64 5, .string (s.extract i (i + 2)), .int .i64 0, .int .i64 0, .int .i64 0]) ?_ rfl ⟨_, rfl, ?_, ?_⟩
          · rw [results_cell rfl]; go_simp
          · have HA := Lib.hid (((((HRk.out.far hblk 0 (.int .i64 5)).far hblk 1 (.string (s.extract i (i + 2)))).far hblk 2 (.int .i64 0)).far hblk 3 (.int .i64 0)).far hblk 4 (.int .i64 0))
            refine .inl ⟨?_, ?_, rfl, ?_⟩
            · rw [signT, HN.out]; rfl
            · rw [signT, HN.out]; show _ = tokV ⟨5, (sfx s i).take 2, 0, 2, 0, 0⟩; rw [tokV, HX.out]
            · rw [signT, HN.out]; exact HA.out
          · exact gb_far (gb_far (gb_far (gb_far (gb_far HGk.out (Nat.le_refl _) _ _) (Nat.le_refl _) _ _) (Nat.le_refl _) _ _) (Nat.le_refl _) _ _) (Nat.le_refl _) _ _
    · have hge : ixC [61, 33, 60, 62] (bt s i) < 0 := by
        have := H4.out
        by_cases h : 0 ≤ ixC [61, 33, 60, 62] (bt s i)
        · exact absurd (this.1 h) h4
        · omega
      have HS2 := Lib.hid (HS.out.trans (if_neg (fun h => h4 h.2)))
      have h61' : (bt s (i + 1) == 61) = true := by simp [h61]
      clear h61 h4
      go_wp2_with fail
      refine (lexIx4 _ _).mono ?_
      rintro e' w1 ⟨rfl, rfl⟩
      by_cases h16 : bt s i ∈ signs1
      · have HN := Lib.hid (HS2.out.trans (if_pos h16))
        have hge2 := H16.out.2 h16
        have h0 : (bt s i != 0) = true := by
          simp
          intro h; rw [h] at h16; simp [signs1] at h16
        clear h16
        go_wp2_with fail
        refine (lexIx16 _ _).mono ?_
        rintro e' w1 ⟨rfl, rfl⟩
        go_wp2_with fail
        obtain ⟨W1, hW1⟩ : ∃ W1, (w.alloc (.cells #[.int .i64 0, .string ⟨#[]⟩, .int .i64 0, .int .i64 0, .int .i64 0] 25)).drewN (m1 + m2) = W1 := ⟨_, rfl⟩
        rw [hW1]
        have HRx : Hid (RD W1 R s i 0 0 0) := Lib.hid (by rw [← hW1]; exact HR.out.drewN _)
        have HGx : Hid (w.grownBy W1 (some R)) := Lib.hid (by rw [← hW1]; exact gb_drewN HG0.out _)
        have HRow : Hid (Row5 W1 w.heap.size (.int .i64 0) (.string ⟨#[]⟩) (.int .i64 0) (.int .i64 0) (.int .i64 0)) := Lib.hid (by rw [← hW1]; exact HRow0.out.kept (R := R) (gb_drewN (gb_refl _ _) _) (by omega))
        have HX := Lib.hid (ext_sfx s i 1)
        have hq0 := HRx.out.c0
        have hq1 := HRx.out.c1
        have hqz : w.heap.size < W1.heap.size := HRow.out.blk
        have hs2 : (0 : Int) ≤ (i : Int) + 1 := by omega
        have hs3 : ((i : Int) + 1).toNat = i + 1 := by omega
        have hs4 : (i : Int) + 1 ≤ (s.size : Int) := by omega
        have hs5 : (i : Int) ≤ (i : Int) + 1 := by omega
        go_wp2_with fail
        have hs7 : (0 : Int) ≤ (i : Int) := by omega
        have hs8 : (i : Int) ≤ (s.size : Int) := by omega
        have hs9 : ((i : Int)).toNat = i := by omega
        have hs0 : -9223372036854775808 ≤ (i : Int) ∧ (i : Int) ≤ 9223372036854775807 := by omega
        have hs1 : IntKind.i64.wrap ((i : Int) + 1) = (i : Int) + 1 := IntWalk.i64_in _ (by omega)
        have hs6 : IntKind.i64.wrap (i : Int) = (i : Int) := IntWalk.i64_in _ hs0
        go_region_held3 (fun w' => w'.cell? ⟨R, 0, none⟩ = some (.string s) ∧ w'.cell? ⟨R, 1, none⟩ = some (.int .i64 i)) (first | go_keep) (first | fail)
        clear hs1 hs6 hs7 hs8 hs9 hs0 hq0 hq1
        obtain ⟨W2, hW2⟩ : ∃ W2, (W1.alloc (.cells #[.int .i64 5, .string (s.extract i (i + 1)), .int .i64 0, .int .i64 0, .int .i64 0] 25)).drew = W2 := ⟨_, rfl⟩
        rw [hW2]
        have HRy : Hid (RD W2 R s i 0 0 0) := Lib.hid (by rw [← hW2]; exact (HRx.out.below (one_alloc _ _)).drewN 1)
        have HGy : Hid (w.grownBy W2 (some R)) := Lib.hid (by rw [← hW2]; exact gb_drewN (gb_below HGx.out (one_alloc _ _)) 1)
        have HRowy : Hid (Row5 W2 w.heap.size (.int .i64 0) (.string ⟨#[]⟩) (.int .i64 0) (.int .i64 0) (.int .i64 0)) := Lib.hid (by rw [← hW2]; exact HRow.out.kept (R := R) (gb_drewN (gb_below (gb_refl _ _) (one_alloc _ _)) 1) (by omega))
        have HRowt : Hid (Row5 W2 W1.heap.size (.int .i64 5) (.string (s.extract i (i + 1))) (.int .i64 0) (.int .i64 0) (.int .i64 0)) := Lib.hid (by rw [← hW2]; exact (Row5.new W1 _ _ _ _ _ _).kept (R := R) (gb_drewN (gb_refl _ _) 1) (by omega))
        clear hW2
        go_wp2_with fail
        go_loopw [44] (fun c wr => ∃ k : Nat, k ≤ 1 ∧ c = .int .i64 k ∧ RD wr R s (i + k) 0 0 0 ∧ w.grownBy wr (some R) ∧ Row5 wr w.heap.size (.int .i64 0) (.string ⟨#[]⟩) (.int .i64 0) (.int .i64 0) (.int .i64 0) ∧ Row5 wr W1.heap.size (.int .i64 5) (.string (s.extract i (i + 1))) (.int .i64 0) (.int .i64 0) (.int .i64 0)) (fun c _ => 1 - (intOf c).toNat)
        case atStart => exact ⟨0, by omega, rfl, HRy.out, HGy.out, HRowy.out, HRowt.out⟩
        case round =>
          obtain ⟨k, hk, rfl, hRk, hGk, hA, hB⟩ := hrel
          by_cases hkn : k < 1
          · first
            | exact absurd hkn (by omega)
            | (go_wp2_with fail
               refine (lexStep R s (i + k) 0 0 0 _ hRk (by omega)).mono ?_
               rintro e' w5 ⟨rfl, hR5, hG5⟩
               go_wp2
               go_roundw
               case rel => exact ⟨k + 1, by omega, by go_num, hR5, gb_trans hGk hG5, hA.kept hG5 (by omega), hB.kept hG5 (by omega)⟩
               case measure => simp [intOf]; omega)
          · have hke : k = 1 := by omega
            have HRk : Hid (RD wr R s (i + 1) 0 0 0) := Lib.hid (by rw [← hke]; exact hRk)
            have HGk := Lib.hid hGk
            have hkk : 1 ≤ k := by omega
            obtain ⟨_, a0, a1, a2, a3, a4, az⟩ := hA
            obtain ⟨_, b0, b1, b2, b3, b4, bz⟩ := hB
            have az0 := az 0
            have az1 := az 1
            have az2 := az 2
            have az3 := az 3
            have az4 := az 4
            clear az bz hRk hGk hke
            go_wp2
            (try simp only [Exit.inBlock, Exit.then])
            refine bodyPost_ret (v := .agg #[.int .i64 5, .string (s.extract i (i + 1)), .int .i64 0, .int .i64 0, .int .i64 0]) ?_ rfl ⟨_, rfl, ?_, ?_⟩
            · rw [results_cell rfl]; go_simp
            · have HA := Lib.hid (((((HRk.out.far hblk 0 (.int .i64 5)).far hblk 1 (.string (s.extract i (i + 1)))).far hblk 2 (.int .i64 0)).far hblk 3 (.int .i64 0)).far hblk 4 (.int .i64 0))
              refine .inl ⟨?_, ?_, rfl, ?_⟩
              · rw [signT, HN.out]; rfl
              · rw [signT, HN.out]; show _ = tokV ⟨5, (sfx s i).take 1, 0, 1, 0, 0⟩; rw [tokV, HX.out]
              · rw [signT, HN.out]; exact HA.out
            · exact gb_far (gb_far (gb_far (gb_far (gb_far HGk.out (Nat.le_refl _) _ _) (Nat.le_refl _) _ _) (Nat.le_refl _) _ _) (Nat.le_refl _) _ _) (Nat.le_refl _) _ _
      · have HN := Lib.hid (HS2.out.trans (if_neg h16))
        have hge2 : ixC [40, 41, 123, 125, 44, 59, 46, 124, 47, 43, 45, 42, 37, 61, 60, 62] (bt s i) < 0 := by
          have := H16.out
          by_cases h : 0 ≤ ixC [40, 41, 123, 125, 44, 59, 46, 124, 47, 43, 45, 42, 37, 61, 60, 62] (bt s i)
          · exact absurd (this.1 h) h16
          · omega
        clear h16
        cases h0 : (bt s i != 0)
        · go_wp2_with fail
          refine (lexWrong R s i 0 0 0 13 _ (HR.out.drewN _)).mono ?_
          rintro e' W1 ⟨rfl, hR1, hG1⟩
          have HRx := Lib.hid hR1
          have HGx := Lib.hid (gb_trans (gb_drewN HG0.out _) hG1)
          have HRow := Lib.hid ((HRow0.out.kept (R := R) (gb_drewN (gb_refl _ _) _) (by omega)).kept hG1 (by omega))
          clear hR1 hG1
          have HX := Lib.hid (ext_sfx s i 0)
          have hq0 := HRx.out.c0
          have hq1 := HRx.out.c1
          have hqz : w.heap.size < W1.heap.size := HRow.out.blk
          have hs2 : (0 : Int) ≤ (i : Int) + 0 := by omega
          have hs3 : ((i : Int) + 0).toNat = i + 0 := by omega
          have hs4 : (i : Int) + 0 ≤ (s.size : Int) := by omega
          have hs5 : (i : Int) ≤ (i : Int) + 0 := by omega
          go_wp2_with fail
          have hs7 : (0 : Int) ≤ (i : Int) := by omega
          have hs8 : (i : Int) ≤ (s.size : Int) := by omega
          have hs9 : ((i : Int)).toNat = i := by omega
          have hs0 : -9223372036854775808 ≤ (i : Int) ∧ (i : Int) ≤ 9223372036854775807 := by omega
          have hs1 : IntKind.i64.wrap ((i : Int) + 0) = (i : Int) + 0 := IntWalk.i64_in _ (by omega)
          have hs6 : IntKind.i64.wrap (i : Int) = (i : Int) := IntWalk.i64_in _ hs0
          go_region_held3 (fun w' => w'.cell? ⟨R, 0, none⟩ = some (.string s) ∧ w'.cell? ⟨R, 1, none⟩ = some (.int .i64 i)) (first | go_keep) (first | fail)
          clear hs1 hs6 hs7 hs8 hs9 hs0 hq0 hq1
          obtain ⟨W2, hW2⟩ : ∃ W2, (W1.alloc (.cells #[.int .i64 5, .string ByteArray.empty, .int .i64 0, .int .i64 0, .int .i64 0] 25)).drew = W2 := ⟨_, rfl⟩
          rw [hW2]
          have HRy : Hid (RD W2 R s i 13 (ln s i) (cl s i)) := Lib.hid (by rw [← hW2]; exact (HRx.out.below (one_alloc _ _)).drewN 1)
          have HGy : Hid (w.grownBy W2 (some R)) := Lib.hid (by rw [← hW2]; exact gb_drewN (gb_below HGx.out (one_alloc _ _)) 1)
          have HRowy : Hid (Row5 W2 w.heap.size (.int .i64 0) (.string ⟨#[]⟩) (.int .i64 0) (.int .i64 0) (.int .i64 0)) := Lib.hid (by rw [← hW2]; exact HRow.out.kept (R := R) (gb_drewN (gb_below (gb_refl _ _) (one_alloc _ _)) 1) (by omega))
          have HRowt : Hid (Row5 W2 W1.heap.size (.int .i64 5) (.string ByteArray.empty) (.int .i64 0) (.int .i64 0) (.int .i64 0)) := Lib.hid (by rw [← hW2]; exact (Row5.new W1 _ _ _ _ _ _).kept (R := R) (gb_drewN (gb_refl _ _) 1) (by omega))
          clear hW2
          go_wp2_with fail
          go_loopw [44] (fun c wr => ∃ k : Nat, k ≤ 0 ∧ c = .int .i64 k ∧ RD wr R s (i + k) 13 (ln s i) (cl s i) ∧ w.grownBy wr (some R) ∧ Row5 wr w.heap.size (.int .i64 0) (.string ⟨#[]⟩) (.int .i64 0) (.int .i64 0) (.int .i64 0) ∧ Row5 wr W1.heap.size (.int .i64 5) (.string ByteArray.empty) (.int .i64 0) (.int .i64 0) (.int .i64 0)) (fun c _ => 0 - (intOf c).toNat)
          case atStart => exact ⟨0, by omega, rfl, HRy.out, HGy.out, HRowy.out, HRowt.out⟩
          case round =>
            obtain ⟨k, hk, rfl, hRk, hGk, hA, hB⟩ := hrel
            by_cases hkn : k < 0
            · first
              | exact absurd hkn (by omega)
              | (go_wp2_with fail
                 refine (lexStep R s (i + k) 13 (ln s i) (cl s i) _ hRk (by omega)).mono ?_
                 rintro e' w5 ⟨rfl, hR5, hG5⟩
                 go_wp2
                 go_roundw
                 case rel => exact ⟨k + 1, by omega, by go_num, hR5, gb_trans hGk hG5, hA.kept hG5 (by omega), hB.kept hG5 (by omega)⟩
                 case measure => simp [intOf]; omega)
            · have hke : k = 0 := by omega
              have HRk : Hid (RD wr R s (i + 0) 13 (ln s i) (cl s i)) := Lib.hid (by rw [← hke]; exact hRk)
              have HGk := Lib.hid hGk
              have hkk : 0 ≤ k := by omega
              obtain ⟨_, a0, a1, a2, a3, a4, az⟩ := hA
              obtain ⟨_, b0, b1, b2, b3, b4, bz⟩ := hB
              have az0 := az 0
              have az1 := az 1
              have az2 := az 2
              have az3 := az 3
              have az4 := az 4
              clear az bz hRk hGk hke
              go_wp2
              (try simp only [Exit.inBlock, Exit.then])
              refine bodyPost_ret (v := .agg #[.int .i64 5, .string ByteArray.empty, .int .i64 0, .int .i64 0, .int .i64 0]) ?_ rfl ⟨_, rfl, ?_, ?_⟩
              · rw [results_cell rfl]; go_simp
              · have HA := Lib.hid (((((HRk.out.far hblk 0 (.int .i64 5)).far hblk 1 (.string ByteArray.empty)).far hblk 2 (.int .i64 0)).far hblk 3 (.int .i64 0)).far hblk 4 (.int .i64 0))
                refine .inr ⟨?_, ⟨_, _, _, rfl⟩, .inr ⟨rfl, ?_⟩⟩
                · rw [signT, HN.out]; show (13 : Int) ≠ 0; decide
                · rw [signT, HN.out]; exact HA.out
              · exact gb_far (gb_far (gb_far (gb_far (gb_far HGk.out (Nat.le_refl _) _ _) (Nat.le_refl _) _ _) (Nat.le_refl _) _ _) (Nat.le_refl _) _ _) (Nat.le_refl _) _ _
        · go_wp2_with fail
          refine (lexIx16 _ _).mono ?_
          rintro e' w1 ⟨rfl, rfl⟩
          go_wp2_with fail
          refine (lexWrong R s i 0 0 0 13 _ (HR.out.drewN _)).mono ?_
          rintro e' W1 ⟨rfl, hR1, hG1⟩
          have HRx := Lib.hid hR1
          have HGx := Lib.hid (gb_trans (gb_drewN HG0.out _) hG1)
          have HRow := Lib.hid ((HRow0.out.kept (R := R) (gb_drewN (gb_refl _ _) _) (by omega)).kept hG1 (by omega))
          clear hR1 hG1
          have HX := Lib.hid (ext_sfx s i 0)
          have hq0 := HRx.out.c0
          have hq1 := HRx.out.c1
          have hqz : w.heap.size < W1.heap.size := HRow.out.blk
          have hs2 : (0 : Int) ≤ (i : Int) + 0 := by omega
          have hs3 : ((i : Int) + 0).toNat = i + 0 := by omega
          have hs4 : (i : Int) + 0 ≤ (s.size : Int) := by omega
          have hs5 : (i : Int) ≤ (i : Int) + 0 := by omega
          go_wp2_with fail
          have hs7 : (0 : Int) ≤ (i : Int) := by omega
          have hs8 : (i : Int) ≤ (s.size : Int) := by omega
          have hs9 : ((i : Int)).toNat = i := by omega
          have hs0 : -9223372036854775808 ≤ (i : Int) ∧ (i : Int) ≤ 9223372036854775807 := by omega
          have hs1 : IntKind.i64.wrap ((i : Int) + 0) = (i : Int) + 0 := IntWalk.i64_in _ (by omega)
          have hs6 : IntKind.i64.wrap (i : Int) = (i : Int) := IntWalk.i64_in _ hs0
          go_region_held3 (fun w' => w'.cell? ⟨R, 0, none⟩ = some (.string s) ∧ w'.cell? ⟨R, 1, none⟩ = some (.int .i64 i)) (first | go_keep) (first | fail)
          clear hs1 hs6 hs7 hs8 hs9 hs0 hq0 hq1
          obtain ⟨W2, hW2⟩ : ∃ W2, (W1.alloc (.cells #[.int .i64 5, .string ByteArray.empty, .int .i64 0, .int .i64 0, .int .i64 0] 25)).drew = W2 := ⟨_, rfl⟩
          rw [hW2]
          have HRy : Hid (RD W2 R s i 13 (ln s i) (cl s i)) := Lib.hid (by rw [← hW2]; exact (HRx.out.below (one_alloc _ _)).drewN 1)
          have HGy : Hid (w.grownBy W2 (some R)) := Lib.hid (by rw [← hW2]; exact gb_drewN (gb_below HGx.out (one_alloc _ _)) 1)
          have HRowy : Hid (Row5 W2 w.heap.size (.int .i64 0) (.string ⟨#[]⟩) (.int .i64 0) (.int .i64 0) (.int .i64 0)) := Lib.hid (by rw [← hW2]; exact HRow.out.kept (R := R) (gb_drewN (gb_below (gb_refl _ _) (one_alloc _ _)) 1) (by omega))
          have HRowt : Hid (Row5 W2 W1.heap.size (.int .i64 5) (.string ByteArray.empty) (.int .i64 0) (.int .i64 0) (.int .i64 0)) := Lib.hid (by rw [← hW2]; exact (Row5.new W1 _ _ _ _ _ _).kept (R := R) (gb_drewN (gb_refl _ _) 1) (by omega))
          clear hW2
          go_wp2_with fail
          go_loopw [44] (fun c wr => ∃ k : Nat, k ≤ 0 ∧ c = .int .i64 k ∧ RD wr R s (i + k) 13 (ln s i) (cl s i) ∧ w.grownBy wr (some R) ∧ Row5 wr w.heap.size (.int .i64 0) (.string ⟨#[]⟩) (.int .i64 0) (.int .i64 0) (.int .i64 0) ∧ Row5 wr W1.heap.size (.int .i64 5) (.string ByteArray.empty) (.int .i64 0) (.int .i64 0) (.int .i64 0)) (fun c _ => 0 - (intOf c).toNat)
          case atStart => exact ⟨0, by omega, rfl, HRy.out, HGy.out, HRowy.out, HRowt.out⟩
          case round =>
            obtain ⟨k, hk, rfl, hRk, hGk, hA, hB⟩ := hrel
            by_cases hkn : k < 0
            · first
              | exact absurd hkn (by omega)
              | (go_wp2_with fail
                 refine (lexStep R s (i + k) 13 (ln s i) (cl s i) _ hRk (by omega)).mono ?_
                 rintro e' w5 ⟨rfl, hR5, hG5⟩
                 go_wp2
                 go_roundw
                 case rel => exact ⟨k + 1, by omega, by go_num, hR5, gb_trans hGk hG5, hA.kept hG5 (by omega), hB.kept hG5 (by omega)⟩
                 case measure => simp [intOf]; omega)
            · have hke : k = 0 := by omega
              have HRk : Hid (RD wr R s (i + 0) 13 (ln s i) (cl s i)) := Lib.hid (by rw [← hke]; exact hRk)
              have HGk := Lib.hid hGk
              have hkk : 0 ≤ k := by omega
              obtain ⟨_, a0, a1, a2, a3, a4, az⟩ := hA
              obtain ⟨_, b0, b1, b2, b3, b4, bz⟩ := hB
              have az0 := az 0
              have az1 := az 1
              have az2 := az 2
              have az3 := az 3
              have az4 := az 4
              clear az bz hRk hGk hke
              go_wp2
              (try simp only [Exit.inBlock, Exit.then])
              refine bodyPost_ret (v := .agg #[.int .i64 5, .string ByteArray.empty, .int .i64 0, .int .i64 0, .int .i64 0]) ?_ rfl ⟨_, rfl, ?_, ?_⟩
              · rw [results_cell rfl]; go_simp
              · have HA := Lib.hid (((((HRk.out.far hblk 0 (.int .i64 5)).far hblk 1 (.string ByteArray.empty)).far hblk 2 (.int .i64 0)).far hblk 3 (.int .i64 0)).far hblk 4 (.int .i64 0))
                refine .inr ⟨?_, ⟨_, _, _, rfl⟩, .inr ⟨rfl, ?_⟩⟩
                · rw [signT, HN.out]; show (13 : Int) ≠ 0; decide
                · rw [signT, HN.out]; exact HA.out
              · exact gb_far (gb_far (gb_far (gb_far (gb_far HGk.out (Nat.le_refl _) _ _) (Nat.le_refl _) _ _) (Nat.le_refl _) _ _) (Nat.le_refl _) _ _) (Nat.le_refl _) _ _
  · have HS2 := Lib.hid (HS.out.trans (if_neg (fun h => h61 h.1)))
    have h61' : (bt s (i + 1) == 61) = false := by simp [h61]
    clear h61
    by_cases h16 : bt s i ∈ signs1
    · have HN := Lib.hid (HS2.out.trans (if_pos h16))
      have hge2 := H16.out.2 h16
      have h0 : (bt s i != 0) = true := by
        simp
        intro h; rw [h] at h16; simp [signs1] at h16
      clear h16
      go_wp2_with fail
      refine (lexIx16 _ _).mono ?_
      rintro e' w1 ⟨rfl, rfl⟩
      go_wp2_with fail
      obtain ⟨W1, hW1⟩ : ∃ W1, (w.alloc (.cells #[.int .i64 0, .string ⟨#[]⟩, .int .i64 0, .int .i64 0, .int .i64 0] 25)).drewN (m1 + m2) = W1 := ⟨_, rfl⟩
      rw [hW1]
      have HRx : Hid (RD W1 R s i 0 0 0) := Lib.hid (by rw [← hW1]; exact HR.out.drewN _)
      have HGx : Hid (w.grownBy W1 (some R)) := Lib.hid (by rw [← hW1]; exact gb_drewN HG0.out _)
      have HRow : Hid (Row5 W1 w.heap.size (.int .i64 0) (.string ⟨#[]⟩) (.int .i64 0) (.int .i64 0) (.int .i64 0)) := Lib.hid (by rw [← hW1]; exact HRow0.out.kept (R := R) (gb_drewN (gb_refl _ _) _) (by omega))
      have HX := Lib.hid (ext_sfx s i 1)
      have hq0 := HRx.out.c0
      have hq1 := HRx.out.c1
      have hqz : w.heap.size < W1.heap.size := HRow.out.blk
      have hs2 : (0 : Int) ≤ (i : Int) + 1 := by omega
      have hs3 : ((i : Int) + 1).toNat = i + 1 := by omega
      have hs4 : (i : Int) + 1 ≤ (s.size : Int) := by omega
      have hs5 : (i : Int) ≤ (i : Int) + 1 := by omega
      go_wp2_with fail
      have hs7 : (0 : Int) ≤ (i : Int) := by omega
      have hs8 : (i : Int) ≤ (s.size : Int) := by omega
      have hs9 : ((i : Int)).toNat = i := by omega
      have hs0 : -9223372036854775808 ≤ (i : Int) ∧ (i : Int) ≤ 9223372036854775807 := by omega
      have hs1 : IntKind.i64.wrap ((i : Int) + 1) = (i : Int) + 1 := IntWalk.i64_in _ (by omega)
      have hs6 : IntKind.i64.wrap (i : Int) = (i : Int) := IntWalk.i64_in _ hs0
      go_region_held3 (fun w' => w'.cell? ⟨R, 0, none⟩ = some (.string s) ∧ w'.cell? ⟨R, 1, none⟩ = some (.int .i64 i)) (first | go_keep) (first | fail)
      clear hs1 hs6 hs7 hs8 hs9 hs0 hq0 hq1
      obtain ⟨W2, hW2⟩ : ∃ W2, (W1.alloc (.cells #[.int .i64 5, .string (s.extract i (i + 1)), .int .i64 0, .int .i64 0, .int .i64 0] 25)).drew = W2 := ⟨_, rfl⟩
      rw [hW2]
      have HRy : Hid (RD W2 R s i 0 0 0) := Lib.hid (by rw [← hW2]; exact (HRx.out.below (one_alloc _ _)).drewN 1)
      have HGy : Hid (w.grownBy W2 (some R)) := Lib.hid (by rw [← hW2]; exact gb_drewN (gb_below HGx.out (one_alloc _ _)) 1)
      have HRowy : Hid (Row5 W2 w.heap.size (.int .i64 0) (.string ⟨#[]⟩) (.int .i64 0) (.int .i64 0) (.int .i64 0)) := Lib.hid (by rw [← hW2]; exact HRow.out.kept (R := R) (gb_drewN (gb_below (gb_refl _ _) (one_alloc _ _)) 1) (by omega))
      have HRowt : Hid (Row5 W2 W1.heap.size (.int .i64 5) (.string (s.extract i (i + 1))) (.int .i64 0) (.int .i64 0) (.int .i64 0)) := Lib.hid (by rw [← hW2]; exact (Row5.new W1 _ _ _ _ _ _).kept (R := R) (gb_drewN (gb_refl _ _) 1) (by omega))
      clear hW2
      go_wp2_with fail
      go_loopw [44] (fun c wr => ∃ k : Nat, k ≤ 1 ∧ c = .int .i64 k ∧ RD wr R s (i + k) 0 0 0 ∧ w.grownBy wr (some R) ∧ Row5 wr w.heap.size (.int .i64 0) (.string ⟨#[]⟩) (.int .i64 0) (.int .i64 0) (.int .i64 0) ∧ Row5 wr W1.heap.size (.int .i64 5) (.string (s.extract i (i + 1))) (.int .i64 0) (.int .i64 0) (.int .i64 0)) (fun c _ => 1 - (intOf c).toNat)
      case atStart => exact ⟨0, by omega, rfl, HRy.out, HGy.out, HRowy.out, HRowt.out⟩
      case round =>
        obtain ⟨k, hk, rfl, hRk, hGk, hA, hB⟩ := hrel
        by_cases hkn : k < 1
        · first
          | exact absurd hkn (by omega)
          | (go_wp2_with fail
             refine (lexStep R s (i + k) 0 0 0 _ hRk (by omega)).mono ?_
             rintro e' w5 ⟨rfl, hR5, hG5⟩
             go_wp2
             go_roundw
             case rel => exact ⟨k + 1, by omega, by go_num, hR5, gb_trans hGk hG5, hA.kept hG5 (by omega), hB.kept hG5 (by omega)⟩
             case measure => simp [intOf]; omega)
        · have hke : k = 1 := by omega
          have HRk : Hid (RD wr R s (i + 1) 0 0 0) := Lib.hid (by rw [← hke]; exact hRk)
          have HGk := Lib.hid hGk
          have hkk : 1 ≤ k := by omega
          obtain ⟨_, a0, a1, a2, a3, a4, az⟩ := hA
          obtain ⟨_, b0, b1, b2, b3, b4, bz⟩ := hB
          have az0 := az 0
          have az1 := az 1
          have az2 := az 2
          have az3 := az 3
          have az4 := az 4
          clear az bz hRk hGk hke
          go_wp2
          (try simp only [Exit.inBlock, Exit.then])
          refine bodyPost_ret (v := .agg #[.int .i64 5, .string (s.extract i (i + 1)), .int .i64 0, .int .i64 0, .int .i64 0]) ?_ rfl ⟨_, rfl, ?_, ?_⟩
          · rw [results_cell rfl]; go_simp
          · have HA := Lib.hid (((((HRk.out.far hblk 0 (.int .i64 5)).far hblk 1 (.string (s.extract i (i + 1)))).far hblk 2 (.int .i64 0)).far hblk 3 (.int .i64 0)).far hblk 4 (.int .i64 0))
            refine .inl ⟨?_, ?_, rfl, ?_⟩
            · rw [signT, HN.out]; rfl
            · rw [signT, HN.out]; show _ = tokV ⟨5, (sfx s i).take 1, 0, 1, 0, 0⟩; rw [tokV, HX.out]
            · rw [signT, HN.out]; exact HA.out
          · exact gb_far (gb_far (gb_far (gb_far (gb_far HGk.out (Nat.le_refl _) _ _) (Nat.le_refl _) _ _) (Nat.le_refl _) _ _) (Nat.le_refl _) _ _) (Nat.le_refl _) _ _
    · have HN := Lib.hid (HS2.out.trans (if_neg h16))
      have hge2 : ixC [40, 41, 123, 125, 44, 59, 46, 124, 47, 43, 45, 42, 37, 61, 60, 62] (bt s i) < 0 := by
        have := H16.out
        by_cases h : 0 ≤ ixC [40, 41, 123, 125, 44, 59, 46, 124, 47, 43, 45, 42, 37, 61, 60, 62] (bt s i)
        · exact absurd (this.1 h) h16
        · omega
      clear h16
      cases h0 : (bt s i != 0)
      · go_wp2_with fail
        refine (lexWrong R s i 0 0 0 13 _ (HR.out.drewN _)).mono ?_
        rintro e' W1 ⟨rfl, hR1, hG1⟩
        have HRx := Lib.hid hR1
        have HGx := Lib.hid (gb_trans (gb_drewN HG0.out _) hG1)
        have HRow := Lib.hid ((HRow0.out.kept (R := R) (gb_drewN (gb_refl _ _) _) (by omega)).kept hG1 (by omega))
        clear hR1 hG1
        have HX := Lib.hid (ext_sfx s i 0)
        have hq0 := HRx.out.c0
        have hq1 := HRx.out.c1
        have hqz : w.heap.size < W1.heap.size := HRow.out.blk
        have hs2 : (0 : Int) ≤ (i : Int) + 0 := by omega
        have hs3 : ((i : Int) + 0).toNat = i + 0 := by omega
        have hs4 : (i : Int) + 0 ≤ (s.size : Int) := by omega
        have hs5 : (i : Int) ≤ (i : Int) + 0 := by omega
        go_wp2_with fail
        have hs7 : (0 : Int) ≤ (i : Int) := by omega
        have hs8 : (i : Int) ≤ (s.size : Int) := by omega
        have hs9 : ((i : Int)).toNat = i := by omega
        have hs0 : -9223372036854775808 ≤ (i : Int) ∧ (i : Int) ≤ 9223372036854775807 := by omega
        have hs1 : IntKind.i64.wrap ((i : Int) + 0) = (i : Int) + 0 := IntWalk.i64_in _ (by omega)
        have hs6 : IntKind.i64.wrap (i : Int) = (i : Int) := IntWalk.i64_in _ hs0
        go_region_held3 (fun w' => w'.cell? ⟨R, 0, none⟩ = some (.string s) ∧ w'.cell? ⟨R, 1, none⟩ = some (.int .i64 i)) (first | go_keep) (first | fail)
        clear hs1 hs6 hs7 hs8 hs9 hs0 hq0 hq1
        obtain ⟨W2, hW2⟩ : ∃ W2, (W1.alloc (.cells #[.int .i64 5, .string ByteArray.empty, .int .i64 0, .int .i64 0, .int .i64 0] 25)).drew = W2 := ⟨_, rfl⟩
        rw [hW2]
        have HRy : Hid (RD W2 R s i 13 (ln s i) (cl s i)) := Lib.hid (by rw [← hW2]; exact (HRx.out.below (one_alloc _ _)).drewN 1)
        have HGy : Hid (w.grownBy W2 (some R)) := Lib.hid (by rw [← hW2]; exact gb_drewN (gb_below HGx.out (one_alloc _ _)) 1)
        have HRowy : Hid (Row5 W2 w.heap.size (.int .i64 0) (.string ⟨#[]⟩) (.int .i64 0) (.int .i64 0) (.int .i64 0)) := Lib.hid (by rw [← hW2]; exact HRow.out.kept (R := R) (gb_drewN (gb_below (gb_refl _ _) (one_alloc _ _)) 1) (by omega))
        have HRowt : Hid (Row5 W2 W1.heap.size (.int .i64 5) (.string ByteArray.empty) (.int .i64 0) (.int .i64 0) (.int .i64 0)) := Lib.hid (by rw [← hW2]; exact (Row5.new W1 _ _ _ _ _ _).kept (R := R) (gb_drewN (gb_refl _ _) 1) (by omega))
        clear hW2
        go_wp2_with fail
        go_loopw [44] (fun c wr => ∃ k : Nat, k ≤ 0 ∧ c = .int .i64 k ∧ RD wr R s (i + k) 13 (ln s i) (cl s i) ∧ w.grownBy wr (some R) ∧ Row5 wr w.heap.size (.int .i64 0) (.string ⟨#[]⟩) (.int .i64 0) (.int .i64 0) (.int .i64 0) ∧ Row5 wr W1.heap.size (.int .i64 5) (.string ByteArray.empty) (.int .i64 0) (.int .i64 0) (.int .i64 0)) (fun c _ => 0 - (intOf c).toNat)
        case atStart => exact ⟨0, by omega, rfl, HRy.out, HGy.out, HRowy.out, HRowt.out⟩
        case round =>
          obtain ⟨k, hk, rfl, hRk, hGk, hA, hB⟩ := hrel
          by_cases hkn : k < 0
          · first
            | exact absurd hkn (by omega)
            | (go_wp2_with fail
               refine (lexStep R s (i + k) 13 (ln s i) (cl s i) _ hRk (by omega)).mono ?_
               rintro e' w5 ⟨rfl, hR5, hG5⟩
               go_wp2
               go_roundw
               case rel => exact ⟨k + 1, by omega, by go_num, hR5, gb_trans hGk hG5, hA.kept hG5 (by omega), hB.kept hG5 (by omega)⟩
               case measure => simp [intOf]; omega)
          · have hke : k = 0 := by omega
            have HRk : Hid (RD wr R s (i + 0) 13 (ln s i) (cl s i)) := Lib.hid (by rw [← hke]; exact hRk)
            have HGk := Lib.hid hGk
            have hkk : 0 ≤ k := by omega
            obtain ⟨_, a0, a1, a2, a3, a4, az⟩ := hA
            obtain ⟨_, b0, b1, b2, b3, b4, bz⟩ := hB
            have az0 := az 0
            have az1 := az 1
            have az2 := az 2
            have az3 := az 3
            have az4 := az 4
            clear az bz hRk hGk hke
            go_wp2
            (try simp only [Exit.inBlock, Exit.then])
            refine bodyPost_ret (v := .agg #[.int .i64 5, .string ByteArray.empty, .int .i64 0, .int .i64 0, .int .i64 0]) ?_ rfl ⟨_, rfl, ?_, ?_⟩
            · rw [results_cell rfl]; go_simp
            · have HA := Lib.hid (((((HRk.out.far hblk 0 (.int .i64 5)).far hblk 1 (.string ByteArray.empty)).far hblk 2 (.int .i64 0)).far hblk 3 (.int .i64 0)).far hblk 4 (.int .i64 0))
              refine .inr ⟨?_, ⟨_, _, _, rfl⟩, .inr ⟨rfl, ?_⟩⟩
              · rw [signT, HN.out]; show (13 : Int) ≠ 0; decide
              · rw [signT, HN.out]; exact HA.out
            · exact gb_far (gb_far (gb_far (gb_far (gb_far HGk.out (Nat.le_refl _) _ _) (Nat.le_refl _) _ _) (Nat.le_refl _) _ _) (Nat.le_refl _) _ _) (Nat.le_refl _) _ _
      · go_wp2_with fail
        refine (lexIx16 _ _).mono ?_
        rintro e' w1 ⟨rfl, rfl⟩
        go_wp2_with fail
        refine (lexWrong R s i 0 0 0 13 _ (HR.out.drewN _)).mono ?_
        rintro e' W1 ⟨rfl, hR1, hG1⟩
        have HRx := Lib.hid hR1
        have HGx := Lib.hid (gb_trans (gb_drewN HG0.out _) hG1)
        have HRow := Lib.hid ((HRow0.out.kept (R := R) (gb_drewN (gb_refl _ _) _) (by omega)).kept hG1 (by omega))
        clear hR1 hG1
        have HX := Lib.hid (ext_sfx s i 0)
        have hq0 := HRx.out.c0
        have hq1 := HRx.out.c1
        have hqz : w.heap.size < W1.heap.size := HRow.out.blk
        have hs2 : (0 : Int) ≤ (i : Int) + 0 := by omega
        have hs3 : ((i : Int) + 0).toNat = i + 0 := by omega
        have hs4 : (i : Int) + 0 ≤ (s.size : Int) := by omega
        have hs5 : (i : Int) ≤ (i : Int) + 0 := by omega
        go_wp2_with fail
        have hs7 : (0 : Int) ≤ (i : Int) := by omega
        have hs8 : (i : Int) ≤ (s.size : Int) := by omega
        have hs9 : ((i : Int)).toNat = i := by omega
        have hs0 : -9223372036854775808 ≤ (i : Int) ∧ (i : Int) ≤ 9223372036854775807 := by omega
        have hs1 : IntKind.i64.wrap ((i : Int) + 0) = (i : Int) + 0 := IntWalk.i64_in _ (by omega)
        have hs6 : IntKind.i64.wrap (i : Int) = (i : Int) := IntWalk.i64_in _ hs0
        go_region_held3 (fun w' => w'.cell? ⟨R, 0, none⟩ = some (.string s) ∧ w'.cell? ⟨R, 1, none⟩ = some (.int .i64 i)) (first | go_keep) (first | fail)
        clear hs1 hs6 hs7 hs8 hs9 hs0 hq0 hq1
        obtain ⟨W2, hW2⟩ : ∃ W2, (W1.alloc (.cells #[.int .i64 5, .string ByteArray.empty, .int .i64 0, .int .i64 0, .int .i64 0] 25)).drew = W2 := ⟨_, rfl⟩
        rw [hW2]
        have HRy : Hid (RD W2 R s i 13 (ln s i) (cl s i)) := Lib.hid (by rw [← hW2]; exact (HRx.out.below (one_alloc _ _)).drewN 1)
        have HGy : Hid (w.grownBy W2 (some R)) := Lib.hid (by rw [← hW2]; exact gb_drewN (gb_below HGx.out (one_alloc _ _)) 1)
        have HRowy : Hid (Row5 W2 w.heap.size (.int .i64 0) (.string ⟨#[]⟩) (.int .i64 0) (.int .i64 0) (.int .i64 0)) := Lib.hid (by rw [← hW2]; exact HRow.out.kept (R := R) (gb_drewN (gb_below (gb_refl _ _) (one_alloc _ _)) 1) (by omega))
        have HRowt : Hid (Row5 W2 W1.heap.size (.int .i64 5) (.string ByteArray.empty) (.int .i64 0) (.int .i64 0) (.int .i64 0)) := Lib.hid (by rw [← hW2]; exact (Row5.new W1 _ _ _ _ _ _).kept (R := R) (gb_drewN (gb_refl _ _) 1) (by omega))
        clear hW2
        go_wp2_with fail
        go_loopw [44] (fun c wr => ∃ k : Nat, k ≤ 0 ∧ c = .int .i64 k ∧ RD wr R s (i + k) 13 (ln s i) (cl s i) ∧ w.grownBy wr (some R) ∧ Row5 wr w.heap.size (.int .i64 0) (.string ⟨#[]⟩) (.int .i64 0) (.int .i64 0) (.int .i64 0) ∧ Row5 wr W1.heap.size (.int .i64 5) (.string ByteArray.empty) (.int .i64 0) (.int .i64 0) (.int .i64 0)) (fun c _ => 0 - (intOf c).toNat)
        case atStart => exact ⟨0, by omega, rfl, HRy.out, HGy.out, HRowy.out, HRowt.out⟩
        case round =>
          obtain ⟨k, hk, rfl, hRk, hGk, hA, hB⟩ := hrel
          by_cases hkn : k < 0
          · first
            | exact absurd hkn (by omega)
            | (go_wp2_with fail
               refine (lexStep R s (i + k) 13 (ln s i) (cl s i) _ hRk (by omega)).mono ?_
               rintro e' w5 ⟨rfl, hR5, hG5⟩
               go_wp2
               go_roundw
               case rel => exact ⟨k + 1, by omega, by go_num, hR5, gb_trans hGk hG5, hA.kept hG5 (by omega), hB.kept hG5 (by omega)⟩
               case measure => simp [intOf]; omega)
          · have hke : k = 0 := by omega
            have HRk : Hid (RD wr R s (i + 0) 13 (ln s i) (cl s i)) := Lib.hid (by rw [← hke]; exact hRk)
            have HGk := Lib.hid hGk
            have hkk : 0 ≤ k := by omega
            obtain ⟨_, a0, a1, a2, a3, a4, az⟩ := hA
            obtain ⟨_, b0, b1, b2, b3, b4, bz⟩ := hB
            have az0 := az 0
            have az1 := az 1
            have az2 := az 2
            have az3 := az 3
            have az4 := az 4
            clear az bz hRk hGk hke
            go_wp2
            (try simp only [Exit.inBlock, Exit.then])
            refine bodyPost_ret (v := .agg #[.int .i64 5, .string ByteArray.empty, .int .i64 0, .int .i64 0, .int .i64 0]) ?_ rfl ⟨_, rfl, ?_, ?_⟩
            · rw [results_cell rfl]; go_simp
            · have HA := Lib.hid (((((HRk.out.far hblk 0 (.int .i64 5)).far hblk 1 (.string ByteArray.empty)).far hblk 2 (.int .i64 0)).far hblk 3 (.int .i64 0)).far hblk 4 (.int .i64 0))
              refine .inr ⟨?_, ⟨_, _, _, rfl⟩, .inr ⟨rfl, ?_⟩⟩
              · rw [signT, HN.out]; show (13 : Int) ≠ 0; decide
              · rw [signT, HN.out]; exact HA.out
            · exact gb_far (gb_far (gb_far (gb_far (gb_far HGk.out (Nat.le_refl _) _ _) (Nat.le_refl _) _ _) (Nat.le_refl _) _ _) (Nat.le_refl _) _ _) (Nat.le_refl _) _ _
end Go.Proofs.YtmelilppeikdiaaDoor
