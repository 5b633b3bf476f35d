/- Contracts of op.Encode and clewref27.Encode.; Contracts of clewref27.among, Has, Encode; clewref30.jump.; Contract of clewref27.Encode. -/
import Derived.Test.YtbcpopakdlplgaaDoorAsmE
import Derived.Deep.QuietTactic
import Derived.BigQuiet
import Derived.IntWalk
import Derived.Deep.RegionHeld3
import Derived.Test.YtbcpopakdlplgaaDoorAsmC
import Derived.Maps.AppendAt
namespace Go.Proofs.YtbcpopakdlplgaaDoor
open Go.RowKit Go.PlainAid
set_option linter.unusedVariables false
set_option linter.unusedSimpArgs false

theorem hasC2 (n : Int) (b : Bool) (hb : hasA n = b) (w : World) : Calls Tryd.prog 42 #[.int .i64 n] w fun e w' => e = .returned (.bool b) ∧ Below w.heap.size w w' := by rw [← hb]; exact hasC n w
theorem by8_int (m : Int) : ((by8 m).toNat : Int) = m % 256 := by
  unfold by8
  have h : (m % 256).toNat < 256 := by omega
  rw [UInt8.toNat_ofNat_of_lt' (by simpa using h)]; omega
theorem OwB.lower {w : World} {base base' : Nat} {v : Value} {L : List UInt8} (h : OwB w base v L) (hb : base' ≤ base) : OwB w base' v L := by
  refine ⟨h.1, ?_⟩
  rcases h.2 with h0 | ⟨g, cap, cur, e, hbg, r⟩
  · exact .inl h0
  · exact .inr ⟨g, cap, cur, e, Nat.le_trans hb hbg, r⟩
/-- The bytes that Encode lays, as they are joined. -/
theorem encCat (w1 : World) (o a : Int) (n o1 : Nat) (u : Int) (hn : n = 0 ∨ (n = 1 ∧ o1 = 2) ∨ (n = 2 ∧ o1 = 1)) (hu : u = 4 * o + n) (ho : 0 ≤ u ∧ u ≤ 255) :
    Calls Tryd.prog 51 #[.slice (some ⟨w1.heap.size + 1, 0, none⟩) 2 2] ((w1.alloc (.cells #[.int .u8 u, .int .u8 (a / 256 % 256), .int .u8 (a % 256)] 5)).alloc (.cells #[.slice (some ⟨w1.heap.size, 0, none⟩) 1 3, .slice (some ⟨w1.heap.size, o1, none⟩) n n] 27)).drew
      fun e w' => ∃ v, e = .returned v ∧ OwB w' w1.heap.size v (encS o a n) ∧ Below w1.heap.size w1 w' := by
  have hz : (w1.alloc (.cells #[.int .u8 u, .int .u8 (a / 256 % 256), .int .u8 (a % 256)] 5)).heap.size = w1.heap.size + 1 := World.size_alloc _ _
  have hk := (BK.new w1 [.int .u8 u, .int .u8 (a / 256 % 256), .int .u8 (a % 256)] 5).alloc (.cells #[.slice (some ⟨w1.heap.size, 0, none⟩) 1 3, .slice (some ⟨w1.heap.size, o1, none⟩) n n] 27)
  have hk2 := BK.new (w1.alloc (.cells #[.int .u8 u, .int .u8 (a / 256 % 256), .int .u8 (a % 256)] 5)) [.slice (some ⟨w1.heap.size, 0, none⟩) 1 3, .slice (some ⟨w1.heap.size, o1, none⟩) n n] 27
  rw [hz] at hk2
  have h0 : byteV (by8 (4 * o + n)) = .int .u8 u := by unfold byteV; rw [by8_int, hu]; congr 1; omega
  have h1 : byteV (by8 (a / 256)) = .int .u8 (a / 256 % 256) := by unfold byteV; rw [by8_int]
  have h2 : byteV (by8 a) = .int .u8 (a % 256) := by unfold byteV; rw [by8_int]
  have hB0 : Below w1.heap.size w1 ((w1.alloc (.cells #[.int .u8 u, .int .u8 (a / 256 % 256), .int .u8 (a % 256)] 5)).alloc (.cells #[.slice (some ⟨w1.heap.size, 0, none⟩) 1 3, .slice (some ⟨w1.heap.size, o1, none⟩) n n] 27)).drew := (bl_a (bl_a (Below.refl _ _) _) _).drew
  have hz2 := hB0.size
  obtain ⟨W, hW⟩ : ∃ W, ((w1.alloc (.cells #[.int .u8 u, .int .u8 (a / 256 % 256), .int .u8 (a % 256)] 5)).alloc (.cells #[.slice (some ⟨w1.heap.size, 0, none⟩) 1 3, .slice (some ⟨w1.heap.size, o1, none⟩) n n] 27)) = W := ⟨_, rfl⟩
  rw [hW] at hB0 hz2 ⊢
  replace hk : BK W w1.heap.size [.int .u8 u, .int .u8 (a / 256 % 256), .int .u8 (a % 256)] 5 := by rw [← hW]; exact hk
  replace hk2 : BK W (w1.heap.size + 1) [.slice (some ⟨w1.heap.size, 0, none⟩) 1 3, .slice (some ⟨w1.heap.size, o1, none⟩) n n] 27 := by rw [← hW]; exact hk2
  clear hW
  have c0 := hk2.cell 0
  have c1 := hk2.cell 1
  have d := hk.cell
  have hlen : (argB a n).length = n := by rcases hn with rfl | ⟨rfl, rfl⟩ | ⟨rfl, rfl⟩ <;> rfl
  refine (concatC W.drew (w1.heap.size + 1) w1.heap.size 0 3 w1.heap.size o1 n [by8 (4 * o + n)] (argB a n) 1 n rfl hlen (by omega) (by omega) c0 c1 ?_ ?_).mono ?_
  · intro i hi
    obtain rfl : i = 0 := by simpa using hi
    exact (d 0).trans (by rw [← h0]; rfl)
  · intro i hi
    rw [hlen] at hi
    rcases hn with rfl | ⟨rfl, rfl⟩ | ⟨rfl, rfl⟩
    · omega
    · obtain rfl : i = 0 := by omega
      exact (d 2).trans (by rw [← h2]; rfl)
    · have : i = 0 ∨ i = 1 := by omega
      rcases this with rfl | rfl
      · exact (d 1).trans (by rw [← h1]; rfl)
      · exact (d 2).trans (by rw [← h2]; rfl)
  · rintro e w' ⟨v, rfl, hO, hB⟩
    exact ⟨v, rfl, hO.lower hz2, hB0.trans (hB.mono hz2)⟩
set_option maxRecDepth 100000 in
set_option maxHeartbeats 4000000 in
theorem encC (x : IN) (w : World) : Calls Tryd.prog 21 #[insV x] w fun e w' => ∃ v, e = .returned v ∧ OwB w' w.heap.size v (encI x) ∧ Below w.heap.size w w' := by
  unfold insV
  have hw1 : IntKind.i64.wrap 1 = 1 := by decide
  have hw2 : IntKind.i64.wrap 2 = 2 := by decide
  have hw3 : IntKind.i64.wrap 3 = 3 := by decide
  by_cases hk : 1 ≤ x.op ∧ x.op < 38
  · have hop : encI x = encS x.op (argI x) (needN (argI x)) := encI_ok hk
    have HOP := Lib.hid hop
    obtain ⟨k1, k2⟩ := hk
    have k3 : x.op ≤ 38 := by omega
    have k4 : ¬ x.op = 38 := by omega
    have hneed := needN_le (argI x)
    cases hA : hasA x.op with
    | true =>
      have hAr : argI x = wr x.arg := by unfold argI; rw [if_pos hA]; rfl
      have hbd := wr_bd x.arg
      have HA := Lib.hid (fun w => hasC2 x.op true hA w)
      have HN := Lib.hid (fun w => sizeC (wr x.arg) w)
      rw [← hAr] at HN hbd
      have HW := Lib.hid (fun w => numWrap x.arg w)
      rw [← hAr] at HW
      obtain ⟨o, ho⟩ : ∃ o, x.op = o := ⟨_, rfl⟩
      obtain ⟨g, hg⟩ : ∃ g, x.arg = g := ⟨_, rfl⟩
      obtain ⟨a, ha⟩ : ∃ a, argI x = a := ⟨_, rfl⟩
      obtain ⟨n, hn⟩ : ∃ n, needN (argI x) = n := ⟨_, rfl⟩
      rw [ho] at k1 k2 k3 k4 HA HOP
      rw [hg] at HW
      rw [ha] at HN HW hbd HOP
      rw [ha] at hn hneed
      rw [hn] at HN hneed HOP
      rw [ho, hg]
      clear hop hA hAr ho hg ha hn
      go_enter Tryd.func21, Tryd.ntmps21
      go_wp2_with (first | (go_at_call 48; refine (knownY _ _ k1 k3).mono ?_; rintro e w' ⟨rfl, rfl⟩) | (go_at_call 42; refine (HA.out _).mono ?_; rintro e w1 ⟨rfl, hb1⟩; obtain ⟨hc1, hf1⟩ := bcell hb1; have hz1 := hb1.size) | (go_at_call 50; refine (HW.out _).mono ?_; rintro e w' ⟨rfl, rfl⟩) | (go_at_call 49; refine (HN.out _).mono ?_; rintro e w' ⟨rfl, rfl⟩))
      have hn3 : n = 0 ∨ n = 1 ∨ n = 2 := by omega
      rcases hn3 with rfl | rfl | rfl
      · go_region_held3 (fun w' => True) (trivial) ((go_at_call 51; refine (encCat _ o a 0 _ _ ?_ ?_ ?_).mono ?_; (omega); (simp <;> omega); (omega); rintro e w2 ⟨v, rfl, hO, hB⟩; have HO := Lib.hid hO; have HB := Lib.hid hB; clear hO hB))
        go_wp2
        go_ret
        exact ⟨_, rfl, by rw [HOP.out]; exact HO.out.lower (Nat.le_trans (by simp) hz1), ((bl_a (Below.refl _ _) _).trans (hb1.mono (by simp))).trans (HB.out.mono (Nat.le_trans (by simp) hz1))⟩
      · go_region_held3 (fun w' => True) (trivial) ((go_at_call 51; refine (encCat _ o a 1 _ _ ?_ ?_ ?_).mono ?_; (omega); (simp <;> omega); (omega); rintro e w2 ⟨v, rfl, hO, hB⟩; have HO := Lib.hid hO; have HB := Lib.hid hB; clear hO hB))
        go_wp2
        go_ret
        exact ⟨_, rfl, by rw [HOP.out]; exact HO.out.lower (Nat.le_trans (by simp) hz1), ((bl_a (Below.refl _ _) _).trans (hb1.mono (by simp))).trans (HB.out.mono (Nat.le_trans (by simp) hz1))⟩
      · go_region_held3 (fun w' => True) (trivial) ((go_at_call 51; refine (encCat _ o a 2 _ _ ?_ ?_ ?_).mono ?_; (omega); (simp <;> omega); (omega); rintro e w2 ⟨v, rfl, hO, hB⟩; have HO := Lib.hid hO; have HB := Lib.hid hB; clear hO hB))
        go_wp2
        go_ret
        exact ⟨_, rfl, by rw [HOP.out]; exact HO.out.lower (Nat.le_trans (by simp) hz1), ((bl_a (Below.refl _ _) _).trans (hb1.mono (by simp))).trans (HB.out.mono (Nat.le_trans (by simp) hz1))⟩
    | false =>
      have hAr : argI x = 0 := by unfold argI; rw [hA]; rfl
      have HA := Lib.hid (fun w => hasC2 x.op false hA w)
      have HN := Lib.hid (fun w => sizeC 0 w)
      obtain ⟨o, ho⟩ : ∃ o, x.op = o := ⟨_, rfl⟩
      obtain ⟨g, hg⟩ : ∃ g, x.arg = g := ⟨_, rfl⟩
      obtain ⟨a, ha⟩ : ∃ a : Int, (0 : Int) = a := ⟨_, rfl⟩
      rw [hAr, show needN 0 = 0 from rfl, ho] at HOP
      rw [show ((needN 0 : Nat) : Int) = 0 from rfl] at HN
      rw [ho] at k1 k2 k3 k4 HA
      rw [ho, hg]
      clear hop hA hAr hneed ho hg
      subst ha
      go_enter Tryd.func21, Tryd.ntmps21
      go_wp2_with (first | (go_at_call 48; refine (knownY _ _ k1 k3).mono ?_; rintro e w' ⟨rfl, rfl⟩) | (go_at_call 42; refine (HA.out _).mono ?_; rintro e w1 ⟨rfl, hb1⟩; obtain ⟨hc1, hf1⟩ := bcell hb1; have hz1 := hb1.size) | (go_at_call 49; refine (HN.out _).mono ?_; rintro e w' ⟨rfl, rfl⟩))
      go_region_held3 (fun w' => True) (trivial) ((go_at_call 51; refine (encCat _ o 0 0 _ _ ?_ ?_ ?_).mono ?_; (omega); (simp <;> omega); (omega); rintro e w2 ⟨v, rfl, hO, hB⟩; have HO := Lib.hid hO; have HB := Lib.hid hB; clear hO hB))
      go_wp2
      go_ret
      exact ⟨_, rfl, by rw [HOP.out]; exact HO.out.lower (Nat.le_trans (by simp) hz1), ((bl_a (Below.refl _ _) _).trans (hb1.mono (by simp))).trans (HB.out.mono (Nat.le_trans (by simp) hz1))⟩
  · have h0 : encI x = [] := by unfold encI; rw [if_pos (by omega)]
    have HOP := Lib.hid h0
    clear h0
    obtain ⟨o, ho⟩ : ∃ o, x.op = o := ⟨_, rfl⟩
    rw [ho] at hk ⊢
    clear ho
    by_cases h38 : o = 38
    · subst h38
      go_enter Tryd.func21, Tryd.ntmps21
      go_wp2_with (first | (go_at_call 48; refine (knownY _ _ (by omega) (by omega)).mono ?_; rintro e w' ⟨rfl, rfl⟩))
      go_ret
      exact ⟨_, rfl, by rw [HOP.out]; exact OwB.nil _ _, bl_a (Below.refl _ _) _⟩
    · have HK := Lib.hid (show ¬ (1 ≤ o ∧ o ≤ 38) by omega)
      go_enter Tryd.func21, Tryd.ntmps21
      go_wp2_with (first | (go_at_call 48; refine (knownN _ _ HK.out).mono ?_; rintro e w' ⟨rfl, rfl⟩))
      go_ret
      exact ⟨_, rfl, by rw [HOP.out]; exact OwB.nil _ _, bl_a (Below.refl _ _) _⟩
end Go.Proofs.YtbcpopakdlplgaaDoor
namespace Go.Proofs.YtbcpopakdlplgaaDoor
open Go.RowKit Go.PlainAid
set_option linter.unusedVariables false
set_option linter.unusedSimpArgs false

set_option maxRecDepth 100000 in
set_option maxHeartbeats 1000000 in
theorem refAmongC (b off n c : Nat) (zs : List Int) (x : Int) (w : World) (hz : zs.length = n) (hbig : n ≤ 100000) (hc : ∀ j, j < zs.length → w.cell? ⟨b, off + j, none⟩ = some (.int .i64 (zs.getD j 0))) :
    Calls Tryd.prog 60 #[.int .i64 x, .slice (some ⟨b, off, none⟩) n c] w fun e w' => e = .returned (.bool (zs.contains x)) ∧ Below w.heap.size w w' := by
  have HC := Lib.hid hc
  have HZ := Lib.hid hz
  clear hc hz
  go_enter Tryd.func60, Tryd.ntmps60
  go_wp2
  go_loop [5] (fun i => ∃ (k : Nat), i = .int .i64 k ∧ k ≤ n ∧ Hid (∀ j, j < k → zs.getD j 0 ≠ x)) (fun i => n - (intOf i).toNat)
  case atStart => exact ⟨0, rfl, Nat.zero_le _, Lib.hid (fun j h => by omega)⟩
  case round =>
    obtain ⟨k, rfl, hk, HI⟩ := hrel
    by_cases hlt : k < n
    · have hcell := HC.out k (by rw [HZ.out]; exact hlt)
      have hk0 : (0 : Int) ≤ (k : Int) := by omega
      have hk1 : (k : Int) < (n : Int) := by omega
      obtain ⟨y, hy⟩ : ∃ y, zs.getD k 0 = y := ⟨_, rfl⟩
      rw [hy] at hcell
      have HY := Lib.hid hy
      clear hy
      by_cases hyx : y = x
      · subst hyx
        have HT : Hid (zs.contains y = true) := Lib.hid (by
          have hkz : k < zs.length := by rw [HZ.out]; exact hlt
          have := HY.out
          rw [List.getD_eq_getElem?_getD, List.getElem?_eq_getElem hkz] at this
          simp only [Option.getD_some] at this
          rw [List.contains_iff_mem, ← this]
          exact List.getElem_mem hkz)
        go_wp2
        go_ret
        exact ⟨ret_b (by have := HT.out; simp at this; simp [this]), Below.refl _ _⟩
      · have hbe : (y == x) = false := by simp [hyx]
        have HI2 : Hid (∀ j, j < k + 1 → zs.getD j 0 ≠ x) := Lib.hid (fun j hj => by
          by_cases e : j = k
          · subst e; rw [HY.out]; exact hyx
          · exact HI.out j (by omega))
        clear hyx
        go_wp2
        go_round
        case rel => exact ⟨k + 1, by go_num, by omega, HI2⟩
        case measure => simp [intOf]; omega
    · have hkn : k = n := by omega
      have HF : Hid (zs.contains x = false) := Lib.hid (by
        rw [← Bool.not_eq_true, List.contains_iff_mem]
        intro hm
        obtain ⟨j, hj, e⟩ := List.getElem_of_mem hm
        refine HI.out j (by rw [hkn, ← HZ.out]; exact hj) ?_
        rw [List.getD_eq_getElem?_getD, List.getElem?_eq_getElem hj]; exact e)
      go_wp2
      go_ret
      exact ⟨ret_b (by have := HF.out; simp at this; simp [this]), Below.refl _ _⟩
theorem refHasC (n : Int) (w : World) : Calls Tryd.prog 45 #[.int .i64 n] w fun e w' => e = .returned (.bool (hasA n)) ∧ Below w.heap.size w w' := by
  go_enter Tryd.func45, Tryd.ntmps45
  go_wp2_with fail
  refine (refAmongC w.heap.size 0 20 20 hasL n _ rfl (by decide) (ints_cell w hasL _)).mono ?_
  rintro e w1 ⟨rfl, hb⟩
  go_wp2_with fail
  go_ret
  exact ⟨ret_b (by show decide (n ∈ hasL) = hasL.contains n; simp), (bl_a (Below.refl _ _) _).trans (hb.mono (by simp))⟩
theorem refHasC2 (n : Int) (b : Bool) (hb : hasA n = b) (w : World) : Calls Tryd.prog 45 #[.int .i64 n] w fun e w' => e = .returned (.bool b) ∧ Below w.heap.size w w' := by rw [← hb]; exact refHasC n w

theorem own_oneB (w : World) (base : Nat) (x : UInt8) (hb : base ≤ w.heap.size) : OwB (w.alloc (.cells #[byteV x] 5)) base (.slice (some ⟨w.heap.size, 0, none⟩) 1 1) [x] :=
  ⟨rfl, .inr ⟨w.heap.size, 1, #[byteV x], rfl, hb, heap_alloc_new w _, Nat.le_refl _, by decide, rfl, rfl⟩⟩
theorem byV (m u : Int) (h : m % 256 = u) : byteV (by8 m) = .int .u8 u := by unfold byteV; rw [by8_int, h]
theorem new_at {w : World} {g : Nat} (hg : w.heap.size = g) (x : Value) (T : TypeId) : ∀ j u, [x][j]? = some u → (w.alloc (.cells #[x] T)).cell? ((⟨g, 0, none⟩ : Addr).add j) = some u := by subst hg; exact cell_one_new w x T
set_option maxRecDepth 100000 in
set_option maxHeartbeats 4000000 in
theorem jumpC (op n : Int) (s : Nat) (w : World) (hs : s ≤ 2) (ho : 0 ≤ 4 * op + s ∧ 4 * op + s ≤ 255) : Calls Tryd.prog 37 #[.int .i64 op, .int .i64 n, .int .i64 s] w fun e w' => ∃ v, e = .returned v ∧ OwB w' w.heap.size v (encS op n s) ∧ Below w.heap.size w w' := by
  obtain ⟨i0, hi, hz0, hz1, hz2⟩ := info_parts Tryd.infoByte
  have hs3 : s = 0 ∨ s = 1 ∨ s = 2 := by omega
  have hb1 : -9223372036854775808 ≤ op ∧ op ≤ 9223372036854775807 := by omega
  have hO := own_oneB w w.heap.size (by8 (4 * op + s)) (Nat.le_refl _)
  rw [byV _ (4 * op + s) (by omega)] at hO
  have hB0 := Lib.hid ((Below.refl w.heap.size w).alloc (Nat.le_refl _) (.cells #[.int .u8 (4 * op + s)] 5))
  have HO := Lib.hid hO
  have hz0' := hB0.out.size
  clear hO
  rcases hs3 with rfl | rfl | rfl
  · have e : encS op n 0 = [by8 (4 * op + ((0 : Nat) : Int))] := by simp [encS, argB]
    rw [e]
    go_enter Tryd.func37, Tryd.ntmps37
    go_wp2
    go_ret
    refine ⟨_, rfl, ?_, ?_⟩
    · have := HO.out; simp only [Int.natCast_zero, Int.add_zero] at this ⊢; exact this
    · exact bl_a (Below.refl _ _) _
  · have HV := Lib.hid (byV n (n % 256) rfl)
    go_enter Tryd.func37, Tryd.ntmps37
    go_wp2_with (at_builtin; refine wpList_append_own _ rfl (.tmp 24) (.tmp 27) 27 rfl w.heap.size 5 i0 (.int .u8 0) 1 1 Tryd.underlying27 hi hz0 hz1 hz2 rfl (by decide) _ _ _ rfl (HO.out.alloc _) ⟨w.heap.size + 1, 0, none⟩ 1 1 [byteV (by8 n)] rfl rfl (by rw [HV.out]; exact new_at (by simp) _ _) (ow_one rfl) (by unfold maxLen; simp) (by simp) (by simp <;> omega) ?_; intro v5 w5 hown hgrow _; have HO5 := Lib.hid (OwB.app (X := [(by8 n)]) hown); have HB5 := Lib.hid (bl_g (bl_a hB0.out _) hgrow (ow_lo HO.out)); have hzw5 := HB5.out.size; clear hown hgrow)
    go_ret
    exact ⟨_, rfl, HO5.out, HB5.out⟩
  · have HV := Lib.hid (byV n (n % 256) rfl)
    have HV2 := Lib.hid (byV (n / 256) (n / 256 % 256) rfl)
    go_enter Tryd.func37, Tryd.ntmps37
    go_wp2_with (first | (at_builtin; refine wpList_append_own _ rfl (.tmp 16) (.tmp 20) 27 rfl w.heap.size 5 i0 (.int .u8 0) 1 1 Tryd.underlying27 hi hz0 hz1 hz2 rfl (by decide) _ _ _ rfl (HO.out.alloc _) ⟨w.heap.size + 1, 0, none⟩ 1 1 [byteV (by8 (n / 256))] rfl rfl (by rw [HV2.out]; exact new_at (by simp) _ _) (ow_one rfl) (by unfold maxLen; simp) (by simp) (by simp <;> omega) ?_; intro v5 w5 hown hgrow _; have HO5 := Lib.hid (OwB.app (X := [(by8 (n / 256))]) hown); have HB5 := Lib.hid (bl_g (bl_a hB0.out _) hgrow (ow_lo HO.out)); have hzw5 := HB5.out.size; clear hown hgrow) | (at_builtin; refine wpList_append_own _ rfl (.tmp 24) (.tmp 27) 27 rfl w.heap.size 5 i0 (.int .u8 0) 1 1 Tryd.underlying27 hi hz0 hz1 hz2 rfl (by decide) _ _ _ rfl (HO5.out.alloc _) ⟨w5.heap.size, 0, none⟩ 1 1 [byteV (by8 n)] rfl rfl (by rw [HV.out]; exact new_at (by simp) _ _) (ow_one rfl) (by unfold maxLen; simp) (by simp) (by simp <;> omega) ?_; intro v6 w6 hown hgrow _; have HO6 := Lib.hid (OwB.app (X := [(by8 n)]) hown); have HB6 := Lib.hid (bl_g (bl_a HB5.out _) hgrow (ow_lo HO5.out)); have hzw6 := HB6.out.size; clear hown hgrow))
    go_ret
    exact ⟨_, rfl, HO6.out, HB6.out⟩
end Go.Proofs.YtbcpopakdlplgaaDoor
namespace Go.Proofs.YtbcpopakdlplgaaDoor
open Go.RowKit Go.PlainAid
set_option linter.unusedVariables false
set_option linter.unusedSimpArgs false

theorem u8_in (x : Int) (h : 0 ≤ x ∧ x ≤ 255) : IntKind.u8.wrap x = x := by simp [IntKind.wrap, IntKind.bits, IntKind.signed]; omega
theorem exit_w {K : Act → World → Prop} {Q : Exit → Act → World → Prop} {x : Exit} {a : Act} {w w' : World} (h : w = w') (H : Exit.then K Q x a w') : Exit.then K Q x a w := h ▸ H
theorem new_atD {w : World} {g : Nat} (hg : w.heap.size = g) (x : Value) (T : TypeId) : ∀ j u, [x][j]? = some u → (w.alloc (.cells #[x] T)).drew.cell? ((⟨g, 0, none⟩ : Addr).add j) = some u := by subst hg; exact cell_one_new w x T
set_option maxRecDepth 100000 in
set_option maxHeartbeats 4000000 in
theorem refEnc_has (x : IN) (w : World) (k1 : 1 ≤ x.op) (k2 : x.op < 38) (hA : hasA x.op = true) : Calls Tryd.prog 36 #[insV x] w fun e w' => ∃ v, e = .returned v ∧ OwB w' w.heap.size v (encI x) ∧ Below w.heap.size w w' := by
  unfold insV
  have HOP := Lib.hid (encI_ok (x := x) ⟨k1, k2⟩)
  obtain ⟨i0, hi, hz0, hz1, hz2⟩ := info_parts Tryd.infoByte
  have hneed := needN_le (argI x)
  have hAr : argI x = wr x.arg := by unfold argI; rw [if_pos hA]; rfl
  have hbd := wr_bd x.arg
  have HA := Lib.hid (fun w => refHasC2 x.op true hA w)
  have HN := Lib.hid (fun w => bytesC (wr x.arg) w)
  rw [← hAr] at HN hbd
  have HW := Lib.hid (fun w => refWrap x.arg w)
  rw [← hAr] at HW
  obtain ⟨o, ho⟩ : ∃ o, x.op = o := ⟨_, rfl⟩
  obtain ⟨g, hg⟩ : ∃ g, x.arg = g := ⟨_, rfl⟩
  obtain ⟨a, ha⟩ : ∃ a, argI x = a := ⟨_, rfl⟩
  obtain ⟨n, hn⟩ : ∃ n, needN (argI x) = n := ⟨_, rfl⟩
  rw [ho] at k1 k2 HA HOP
  rw [hg] at HW
  rw [ha] at HN HW hbd HOP
  rw [ha] at hn hneed
  rw [hn] at HN hneed HOP
  rw [ho, hg]
  clear hAr ho hg ha hn hA
  have hn3 : n = 0 ∨ n = 1 ∨ n = 2 := by omega
  by_cases hneg : a < 0
  · rcases hn3 with rfl | rfl | rfl
    · go_enter Tryd.func36, Tryd.ntmps36
      go_wp2_with (first | (go_at_call 55; refine (HW.out _).mono ?_; rintro e w' ⟨rfl, rfl⟩) | (go_at_call 45; refine (HA.out _).mono ?_; rintro e w1 ⟨rfl, hb1⟩; obtain ⟨hc1, hf1⟩ := bcell hb1; have hzz1 := hb1.size))
      have hcell : w1.cell? ⟨w.heap.size, 0, none⟩ = some (.int .i64 o) := by rw [hc1 _ _ (by simp)]; simp
      have hnew := World.new_ne w1 ⟨w.heap.size, 0, none⟩ hcell
      have hsz1 : w.heap.size + 1 ≤ w1.heap.size := by simpa using hzz1
      have HB1 : Hid (Below w.heap.size w w1) := Lib.hid ((bl_a (Below.refl _ _) _).trans (hb1.mono (by simp)))
      have s1 : IntKind.i64.wrap (4 * o) = 4 * o := IntWalk.i64_in _ (by omega)
      have s3 : IntKind.u8.wrap (4 * o) = 4 * o := u8_in _ (by omega)
      obtain ⟨W, hW⟩ : ∃ W, (w1.alloc (.cells #[.int .u8 (4 * o)] 5)).drew = W := ⟨_, rfl⟩
      have HO : Hid (OwB W w.heap.size (.slice (some ⟨w1.heap.size, 0, none⟩) 1 1) [by8 (4 * o + 0)]) := Lib.hid (by
        rw [← hW]
        have := own_oneB w1 w.heap.size (by8 (4 * o + 0)) (by omega)
        rw [byV _ (4 * o) (by omega)] at this; exact this)
      have HB2 : Hid (Below w.heap.size w W) := Lib.hid (by rw [← hW]; exact (bl_a HB1.out _).drew)
      have hzz2 := HB2.out.size
      have hcW : W.cell? ⟨w.heap.size, 0, none⟩ = some (.int .i64 o) := by rw [← hW, ((bl_a (Below.refl _ _) _).drew).cell (p := ⟨w.heap.size, 0, none⟩) (by simp <;> omega)]; exact hcell
      go_region_held3 (fun w' => w'.cell? ⟨w.heap.size, 0, none⟩ = some (.int .i64 o)) (first | assumption | (go_keep; done)) ((go_at_call 56; refine (HN.out _).mono ?_; rintro e w' ⟨rfl, rfl⟩))
      (try refine exit_w hW ?_)
      clear hW s1 s3 hcW
      go_wp2_with (first | (go_at_call 56; refine (HN.out _).mono ?_; rintro e w' ⟨rfl, rfl⟩))
      go_ret
      exact ⟨_, rfl, by rw [HOP.out]; exact HO.out, HB2.out⟩
    · have HV := Lib.hid (byV a ((a + 65536) % 256) (by omega))
      go_enter Tryd.func36, Tryd.ntmps36
      go_wp2_with (first | (go_at_call 55; refine (HW.out _).mono ?_; rintro e w' ⟨rfl, rfl⟩) | (go_at_call 45; refine (HA.out _).mono ?_; rintro e w1 ⟨rfl, hb1⟩; obtain ⟨hc1, hf1⟩ := bcell hb1; have hzz1 := hb1.size))
      have hcell : w1.cell? ⟨w.heap.size, 0, none⟩ = some (.int .i64 o) := by rw [hc1 _ _ (by simp)]; simp
      have hnew := World.new_ne w1 ⟨w.heap.size, 0, none⟩ hcell
      have hsz1 : w.heap.size + 1 ≤ w1.heap.size := by simpa using hzz1
      have HB1 : Hid (Below w.heap.size w w1) := Lib.hid ((bl_a (Below.refl _ _) _).trans (hb1.mono (by simp)))
      have s1 : IntKind.i64.wrap (4 * o) = 4 * o := IntWalk.i64_in _ (by omega)
      have s2 : IntKind.i64.wrap (4 * o + 1) = 4 * o + 1 := IntWalk.i64_in _ (by omega)
      have s3 : IntKind.u8.wrap (4 * o + 1) = 4 * o + 1 := u8_in _ (by omega)
      obtain ⟨W, hW⟩ : ∃ W, (w1.alloc (.cells #[.int .u8 (4 * o + 1)] 5)).drew = W := ⟨_, rfl⟩
      have HO : Hid (OwB W w.heap.size (.slice (some ⟨w1.heap.size, 0, none⟩) 1 1) [by8 (4 * o + 1)]) := Lib.hid (by
        rw [← hW]
        have := own_oneB w1 w.heap.size (by8 (4 * o + 1)) (by omega)
        rw [byV _ (4 * o + 1) (by omega)] at this; exact this)
      have HB2 : Hid (Below w.heap.size w W) := Lib.hid (by rw [← hW]; exact (bl_a HB1.out _).drew)
      have hzz2 := HB2.out.size
      have hcW : W.cell? ⟨w.heap.size, 0, none⟩ = some (.int .i64 o) := by rw [← hW, ((bl_a (Below.refl _ _) _).drew).cell (p := ⟨w.heap.size, 0, none⟩) (by simp <;> omega)]; exact hcell
      go_region_held3 (fun w' => w'.cell? ⟨w.heap.size, 0, none⟩ = some (.int .i64 o)) (first | assumption | (go_keep; done)) ((go_at_call 56; refine (HN.out _).mono ?_; rintro e w' ⟨rfl, rfl⟩))
      (try refine exit_w hW ?_)
      clear hW s1 s3 hcW
      go_wp2_with (first | (go_at_call 56; refine (HN.out _).mono ?_; rintro e w' ⟨rfl, rfl⟩) | (at_builtin; refine wpList_append_own _ rfl (.tmp 46) (.tmp 50) 27 rfl w.heap.size 5 i0 (.int .u8 0) 1 1 Tryd.underlying27 hi hz0 hz1 hz2 rfl (by decide) _ _ _ rfl (HO.out.alloc _) ⟨W.heap.size, 0, none⟩ 1 1 [byteV (by8 a)] rfl rfl (by rw [HV.out]; exact new_at rfl _ _) (ow_one rfl) (by unfold maxLen; simp) (by simp) (by simp <;> omega) ?_; intro v5 w5 hown hgrow _; have HO5 := Lib.hid (OwB.app (X := [(by8 a)]) hown); have HB5 := Lib.hid (bl_g (bl_a HB2.out _) hgrow (ow_lo HO.out)); have hzw5 := HB5.out.size; clear hown hgrow))
      go_ret
      exact ⟨_, rfl, by rw [HOP.out]; exact HO5.out, HB5.out⟩
    · have HV2 := Lib.hid (byV (a / 256) ((a + 65536) / 256) (by omega))
      have HV := Lib.hid (byV a ((a + 65536) % 256) (by omega))
      go_enter Tryd.func36, Tryd.ntmps36
      go_wp2_with (first | (go_at_call 55; refine (HW.out _).mono ?_; rintro e w' ⟨rfl, rfl⟩) | (go_at_call 45; refine (HA.out _).mono ?_; rintro e w1 ⟨rfl, hb1⟩; obtain ⟨hc1, hf1⟩ := bcell hb1; have hzz1 := hb1.size))
      have hcell : w1.cell? ⟨w.heap.size, 0, none⟩ = some (.int .i64 o) := by rw [hc1 _ _ (by simp)]; simp
      have hnew := World.new_ne w1 ⟨w.heap.size, 0, none⟩ hcell
      have hsz1 : w.heap.size + 1 ≤ w1.heap.size := by simpa using hzz1
      have HB1 : Hid (Below w.heap.size w w1) := Lib.hid ((bl_a (Below.refl _ _) _).trans (hb1.mono (by simp)))
      have s1 : IntKind.i64.wrap (4 * o) = 4 * o := IntWalk.i64_in _ (by omega)
      have s2 : IntKind.i64.wrap (4 * o + 2) = 4 * o + 2 := IntWalk.i64_in _ (by omega)
      have s3 : IntKind.u8.wrap (4 * o + 2) = 4 * o + 2 := u8_in _ (by omega)
      obtain ⟨W, hW⟩ : ∃ W, (w1.alloc (.cells #[.int .u8 (4 * o + 2)] 5)).drew = W := ⟨_, rfl⟩
      have HO : Hid (OwB W w.heap.size (.slice (some ⟨w1.heap.size, 0, none⟩) 1 1) [by8 (4 * o + 2)]) := Lib.hid (by
        rw [← hW]
        have := own_oneB w1 w.heap.size (by8 (4 * o + 2)) (by omega)
        rw [byV _ (4 * o + 2) (by omega)] at this; exact this)
      have HB2 : Hid (Below w.heap.size w W) := Lib.hid (by rw [← hW]; exact (bl_a HB1.out _).drew)
      have hzz2 := HB2.out.size
      have hcW : W.cell? ⟨w.heap.size, 0, none⟩ = some (.int .i64 o) := by rw [← hW, ((bl_a (Below.refl _ _) _).drew).cell (p := ⟨w.heap.size, 0, none⟩) (by simp <;> omega)]; exact hcell
      go_region_held3 (fun w' => w'.cell? ⟨w.heap.size, 0, none⟩ = some (.int .i64 o)) (first | assumption | (go_keep; done)) ((go_at_call 56; refine (HN.out _).mono ?_; rintro e w' ⟨rfl, rfl⟩))
      (try refine exit_w hW ?_)
      clear hW s1 s3 hcW
      go_wp2_with (first | (go_at_call 56; refine (HN.out _).mono ?_; rintro e w' ⟨rfl, rfl⟩) | (at_builtin; refine wpList_append_own _ rfl (.tmp 37) (.tmp 41) 27 rfl w.heap.size 5 i0 (.int .u8 0) 1 1 Tryd.underlying27 hi hz0 hz1 hz2 rfl (by decide) _ _ _ rfl (HO.out.alloc _) ⟨W.heap.size, 0, none⟩ 1 1 [byteV (by8 (a / 256))] rfl rfl (by rw [HV2.out]; exact new_at rfl _ _) (ow_one rfl) (by unfold maxLen; simp) (by simp) (by simp <;> omega) ?_; intro v5 w5 hown hgrow _; have HO5 := Lib.hid (OwB.app (X := [(by8 (a / 256))]) hown); have HB5 := Lib.hid (bl_g (bl_a HB2.out _) hgrow (ow_lo HO.out)); have hzw5 := HB5.out.size; clear hown hgrow) | (at_builtin; refine wpList_append_own _ rfl (.tmp 46) (.tmp 50) 27 rfl w.heap.size 5 i0 (.int .u8 0) 1 1 Tryd.underlying27 hi hz0 hz1 hz2 rfl (by decide) _ _ _ rfl (HO5.out.alloc _) ⟨w5.heap.size, 0, none⟩ 1 1 [byteV (by8 a)] rfl rfl (by rw [HV.out]; exact new_at rfl _ _) (ow_one rfl) (by unfold maxLen; simp) (by simp) (by simp <;> omega) ?_; intro v6 w6 hown hgrow _; have HO6 := Lib.hid (OwB.app (X := [(by8 a)]) hown); have HB6 := Lib.hid (bl_g (bl_a HB5.out _) hgrow (ow_lo HO5.out)); have hzw6 := HB6.out.size; clear hown hgrow))
      go_ret
      exact ⟨_, rfl, by rw [HOP.out]; exact HO6.out, HB6.out⟩
  · have hpos : 0 ≤ a := by omega
    rcases hn3 with rfl | rfl | rfl
    · go_enter Tryd.func36, Tryd.ntmps36
      go_wp2_with (first | (go_at_call 55; refine (HW.out _).mono ?_; rintro e w' ⟨rfl, rfl⟩) | (go_at_call 45; refine (HA.out _).mono ?_; rintro e w1 ⟨rfl, hb1⟩; obtain ⟨hc1, hf1⟩ := bcell hb1; have hzz1 := hb1.size))
      have hcell : w1.cell? ⟨w.heap.size, 0, none⟩ = some (.int .i64 o) := by rw [hc1 _ _ (by simp)]; simp
      have hnew := World.new_ne w1 ⟨w.heap.size, 0, none⟩ hcell
      have hsz1 : w.heap.size + 1 ≤ w1.heap.size := by simpa using hzz1
      have HB1 : Hid (Below w.heap.size w w1) := Lib.hid ((bl_a (Below.refl _ _) _).trans (hb1.mono (by simp)))
      have s1 : IntKind.i64.wrap (4 * o) = 4 * o := IntWalk.i64_in _ (by omega)
      have s3 : IntKind.u8.wrap (4 * o) = 4 * o := u8_in _ (by omega)
      obtain ⟨W, hW⟩ : ∃ W, (w1.alloc (.cells #[.int .u8 (4 * o)] 5)).drew = W := ⟨_, rfl⟩
      have HO : Hid (OwB W w.heap.size (.slice (some ⟨w1.heap.size, 0, none⟩) 1 1) [by8 (4 * o + 0)]) := Lib.hid (by
        rw [← hW]
        have := own_oneB w1 w.heap.size (by8 (4 * o + 0)) (by omega)
        rw [byV _ (4 * o) (by omega)] at this; exact this)
      have HB2 : Hid (Below w.heap.size w W) := Lib.hid (by rw [← hW]; exact (bl_a HB1.out _).drew)
      have hzz2 := HB2.out.size
      have hcW : W.cell? ⟨w.heap.size, 0, none⟩ = some (.int .i64 o) := by rw [← hW, ((bl_a (Below.refl _ _) _).drew).cell (p := ⟨w.heap.size, 0, none⟩) (by simp <;> omega)]; exact hcell
      go_region_held3 (fun w' => w'.cell? ⟨w.heap.size, 0, none⟩ = some (.int .i64 o)) (first | assumption | (go_keep; done)) ((go_at_call 56; refine (HN.out _).mono ?_; rintro e w' ⟨rfl, rfl⟩))
      (try refine exit_w hW ?_)
      clear hW s1 s3 hcW
      go_wp2_with (first | (go_at_call 56; refine (HN.out _).mono ?_; rintro e w' ⟨rfl, rfl⟩))
      go_ret
      exact ⟨_, rfl, by rw [HOP.out]; exact HO.out, HB2.out⟩
    · have HV := Lib.hid (byV a (a % 256) (by omega))
      go_enter Tryd.func36, Tryd.ntmps36
      go_wp2_with (first | (go_at_call 55; refine (HW.out _).mono ?_; rintro e w' ⟨rfl, rfl⟩) | (go_at_call 45; refine (HA.out _).mono ?_; rintro e w1 ⟨rfl, hb1⟩; obtain ⟨hc1, hf1⟩ := bcell hb1; have hzz1 := hb1.size))
      have hcell : w1.cell? ⟨w.heap.size, 0, none⟩ = some (.int .i64 o) := by rw [hc1 _ _ (by simp)]; simp
      have hnew := World.new_ne w1 ⟨w.heap.size, 0, none⟩ hcell
      have hsz1 : w.heap.size + 1 ≤ w1.heap.size := by simpa using hzz1
      have HB1 : Hid (Below w.heap.size w w1) := Lib.hid ((bl_a (Below.refl _ _) _).trans (hb1.mono (by simp)))
      have s1 : IntKind.i64.wrap (4 * o) = 4 * o := IntWalk.i64_in _ (by omega)
      have s2 : IntKind.i64.wrap (4 * o + 1) = 4 * o + 1 := IntWalk.i64_in _ (by omega)
      have s3 : IntKind.u8.wrap (4 * o + 1) = 4 * o + 1 := u8_in _ (by omega)
      obtain ⟨W, hW⟩ : ∃ W, (w1.alloc (.cells #[.int .u8 (4 * o + 1)] 5)).drew = W := ⟨_, rfl⟩
      have HO : Hid (OwB W w.heap.size (.slice (some ⟨w1.heap.size, 0, none⟩) 1 1) [by8 (4 * o + 1)]) := Lib.hid (by
        rw [← hW]
        have := own_oneB w1 w.heap.size (by8 (4 * o + 1)) (by omega)
        rw [byV _ (4 * o + 1) (by omega)] at this; exact this)
      have HB2 : Hid (Below w.heap.size w W) := Lib.hid (by rw [← hW]; exact (bl_a HB1.out _).drew)
      have hzz2 := HB2.out.size
      have hcW : W.cell? ⟨w.heap.size, 0, none⟩ = some (.int .i64 o) := by rw [← hW, ((bl_a (Below.refl _ _) _).drew).cell (p := ⟨w.heap.size, 0, none⟩) (by simp <;> omega)]; exact hcell
      go_region_held3 (fun w' => w'.cell? ⟨w.heap.size, 0, none⟩ = some (.int .i64 o)) (first | assumption | (go_keep; done)) ((go_at_call 56; refine (HN.out _).mono ?_; rintro e w' ⟨rfl, rfl⟩))
      (try refine exit_w hW ?_)
      clear hW s1 s3 hcW
      go_wp2_with (first | (go_at_call 56; refine (HN.out _).mono ?_; rintro e w' ⟨rfl, rfl⟩) | (at_builtin; refine wpList_append_own _ rfl (.tmp 46) (.tmp 50) 27 rfl w.heap.size 5 i0 (.int .u8 0) 1 1 Tryd.underlying27 hi hz0 hz1 hz2 rfl (by decide) _ _ _ rfl (HO.out.alloc _) ⟨W.heap.size, 0, none⟩ 1 1 [byteV (by8 a)] rfl rfl (by rw [HV.out]; exact new_at rfl _ _) (ow_one rfl) (by unfold maxLen; simp) (by simp) (by simp <;> omega) ?_; intro v5 w5 hown hgrow _; have HO5 := Lib.hid (OwB.app (X := [(by8 a)]) hown); have HB5 := Lib.hid (bl_g (bl_a HB2.out _) hgrow (ow_lo HO.out)); have hzw5 := HB5.out.size; clear hown hgrow))
      go_ret
      exact ⟨_, rfl, by rw [HOP.out]; exact HO5.out, HB5.out⟩
    · have HV2 := Lib.hid (byV (a / 256) (a / 256) (by omega))
      have HV := Lib.hid (byV a (a % 256) (by omega))
      go_enter Tryd.func36, Tryd.ntmps36
      go_wp2_with (first | (go_at_call 55; refine (HW.out _).mono ?_; rintro e w' ⟨rfl, rfl⟩) | (go_at_call 45; refine (HA.out _).mono ?_; rintro e w1 ⟨rfl, hb1⟩; obtain ⟨hc1, hf1⟩ := bcell hb1; have hzz1 := hb1.size))
      have hcell : w1.cell? ⟨w.heap.size, 0, none⟩ = some (.int .i64 o) := by rw [hc1 _ _ (by simp)]; simp
      have hnew := World.new_ne w1 ⟨w.heap.size, 0, none⟩ hcell
      have hsz1 : w.heap.size + 1 ≤ w1.heap.size := by simpa using hzz1
      have HB1 : Hid (Below w.heap.size w w1) := Lib.hid ((bl_a (Below.refl _ _) _).trans (hb1.mono (by simp)))
      have s1 : IntKind.i64.wrap (4 * o) = 4 * o := IntWalk.i64_in _ (by omega)
      have s2 : IntKind.i64.wrap (4 * o + 2) = 4 * o + 2 := IntWalk.i64_in _ (by omega)
      have s3 : IntKind.u8.wrap (4 * o + 2) = 4 * o + 2 := u8_in _ (by omega)
      obtain ⟨W, hW⟩ : ∃ W, (w1.alloc (.cells #[.int .u8 (4 * o + 2)] 5)).drew = W := ⟨_, rfl⟩
      have HO : Hid (OwB W w.heap.size (.slice (some ⟨w1.heap.size, 0, none⟩) 1 1) [by8 (4 * o + 2)]) := Lib.hid (by
        rw [← hW]
        have := own_oneB w1 w.heap.size (by8 (4 * o + 2)) (by omega)
        rw [byV _ (4 * o + 2) (by omega)] at this; exact this)
      have HB2 : Hid (Below w.heap.size w W) := Lib.hid (by rw [← hW]; exact (bl_a HB1.out _).drew)
      have hzz2 := HB2.out.size
      have hcW : W.cell? ⟨w.heap.size, 0, none⟩ = some (.int .i64 o) := by rw [← hW, ((bl_a (Below.refl _ _) _).drew).cell (p := ⟨w.heap.size, 0, none⟩) (by simp <;> omega)]; exact hcell
      go_region_held3 (fun w' => w'.cell? ⟨w.heap.size, 0, none⟩ = some (.int .i64 o)) (first | assumption | (go_keep; done)) ((go_at_call 56; refine (HN.out _).mono ?_; rintro e w' ⟨rfl, rfl⟩))
      (try refine exit_w hW ?_)
      clear hW s1 s3 hcW
      go_wp2_with (first | (go_at_call 56; refine (HN.out _).mono ?_; rintro e w' ⟨rfl, rfl⟩) | (at_builtin; refine wpList_append_own _ rfl (.tmp 37) (.tmp 41) 27 rfl w.heap.size 5 i0 (.int .u8 0) 1 1 Tryd.underlying27 hi hz0 hz1 hz2 rfl (by decide) _ _ _ rfl (HO.out.alloc _) ⟨W.heap.size, 0, none⟩ 1 1 [byteV (by8 (a / 256))] rfl rfl (by rw [HV2.out]; exact new_at rfl _ _) (ow_one rfl) (by unfold maxLen; simp) (by simp) (by simp <;> omega) ?_; intro v5 w5 hown hgrow _; have HO5 := Lib.hid (OwB.app (X := [(by8 (a / 256))]) hown); have HB5 := Lib.hid (bl_g (bl_a HB2.out _) hgrow (ow_lo HO.out)); have hzw5 := HB5.out.size; clear hown hgrow) | (at_builtin; refine wpList_append_own _ rfl (.tmp 46) (.tmp 50) 27 rfl w.heap.size 5 i0 (.int .u8 0) 1 1 Tryd.underlying27 hi hz0 hz1 hz2 rfl (by decide) _ _ _ rfl (HO5.out.alloc _) ⟨w5.heap.size, 0, none⟩ 1 1 [byteV (by8 a)] rfl rfl (by rw [HV.out]; exact new_at rfl _ _) (ow_one rfl) (by unfold maxLen; simp) (by simp) (by simp <;> omega) ?_; intro v6 w6 hown hgrow _; have HO6 := Lib.hid (OwB.app (X := [(by8 a)]) hown); have HB6 := Lib.hid (bl_g (bl_a HB5.out _) hgrow (ow_lo HO5.out)); have hzw6 := HB6.out.size; clear hown hgrow))
      go_ret
      exact ⟨_, rfl, by rw [HOP.out]; exact HO6.out, HB6.out⟩
set_option maxRecDepth 100000 in
set_option maxHeartbeats 4000000 in
theorem refEnc_no (x : IN) (w : World) (k1 : 1 ≤ x.op) (k2 : x.op < 38) (hA : hasA x.op = false) : Calls Tryd.prog 36 #[insV x] w fun e w' => ∃ v, e = .returned v ∧ OwB w' w.heap.size v (encI x) ∧ Below w.heap.size w w' := by
  unfold insV
  have hAr : argI x = 0 := by unfold argI; rw [hA]; rfl
  have HOP := Lib.hid (encI_ok (x := x) ⟨k1, k2⟩)
  rw [hAr, show needN 0 = 0 from rfl] at HOP
  have HA := Lib.hid (fun w => refHasC2 x.op false hA w)
  have HN := Lib.hid (fun w => bytesC 0 w)
  rw [show ((needN 0 : Nat) : Int) = 0 from rfl] at HN
  have HW := Lib.hid (fun w => refWrap x.arg w)
  obtain ⟨o, ho⟩ : ∃ o, x.op = o := ⟨_, rfl⟩
  obtain ⟨g, hg⟩ : ∃ g, x.arg = g := ⟨_, rfl⟩
  rw [ho] at k1 k2 HA HOP
  rw [hg] at HW
  rw [ho, hg]
  clear ho hg hA hAr
  go_enter Tryd.func36, Tryd.ntmps36
  go_wp2_with (first | (go_at_call 55; refine (HW.out _).mono ?_; rintro e w' ⟨rfl, rfl⟩) | (go_at_call 45; refine (HA.out _).mono ?_; rintro e w1 ⟨rfl, hb1⟩; obtain ⟨hc1, hf1⟩ := bcell hb1; have hzz1 := hb1.size))
  have hcell : w1.cell? ⟨w.heap.size, 0, none⟩ = some (.int .i64 o) := by rw [hc1 _ _ (by simp)]; simp
  have hnew := World.new_ne w1 ⟨w.heap.size, 0, none⟩ hcell
  have hsz1 : w.heap.size + 1 ≤ w1.heap.size := by simpa using hzz1
  have HB1 : Hid (Below w.heap.size w w1) := Lib.hid ((bl_a (Below.refl _ _) _).trans (hb1.mono (by simp)))
  have s1 : IntKind.i64.wrap (4 * o) = 4 * o := IntWalk.i64_in _ (by omega)
  have s3 : IntKind.u8.wrap (4 * o) = 4 * o := u8_in _ (by omega)
  obtain ⟨W, hW⟩ : ∃ W, (w1.alloc (.cells #[.int .u8 (4 * o)] 5)).drew = W := ⟨_, rfl⟩
  have HO : Hid (OwB W w.heap.size (.slice (some ⟨w1.heap.size, 0, none⟩) 1 1) [by8 (4 * o + 0)]) := Lib.hid (by
    rw [← hW]
    have := own_oneB w1 w.heap.size (by8 (4 * o + 0)) (by omega)
    rw [byV _ (4 * o) (by omega)] at this; exact this)
  have HB2 : Hid (Below w.heap.size w W) := Lib.hid (by rw [← hW]; exact (bl_a HB1.out _).drew)
  have hzz2 := HB2.out.size
  have hcW : W.cell? ⟨w.heap.size, 0, none⟩ = some (.int .i64 o) := by rw [← hW, ((bl_a (Below.refl _ _) _).drew).cell (p := ⟨w.heap.size, 0, none⟩) (by simp <;> omega)]; exact hcell
  go_region_held3 (fun w' => w'.cell? ⟨w.heap.size, 0, none⟩ = some (.int .i64 o)) (first | assumption | (go_keep; done)) ((go_at_call 56; refine (HN.out _).mono ?_; rintro e w' ⟨rfl, rfl⟩))
  (try refine exit_w hW ?_)
  clear hW s1 s3 hcW
  go_wp2_with (first | (go_at_call 56; refine (HN.out _).mono ?_; rintro e w' ⟨rfl, rfl⟩))
  go_ret
  exact ⟨_, rfl, by rw [HOP.out]; exact HO.out, HB2.out⟩
theorem refEncC (x : IN) (w : World) : Calls Tryd.prog 36 #[insV x] w fun e w' => ∃ v, e = .returned v ∧ OwB w' w.heap.size v (encI x) ∧ Below w.heap.size w w' := by
  by_cases hk : 1 ≤ x.op ∧ x.op < 38
  · cases hA : hasA x.op with
    | true => exact refEnc_has x w hk.1 hk.2 hA
    | false => exact refEnc_no x w hk.1 hk.2 hA
  · have HOP : Hid (encI x = []) := Lib.hid (by unfold encI; rw [if_pos (by omega)])
    unfold insV
    obtain ⟨o, ho⟩ : ∃ o, x.op = o := ⟨_, rfl⟩
    rw [ho] at hk ⊢
    clear ho
    by_cases h1 : o < 1
    · clear hk
      go_enter Tryd.func36, Tryd.ntmps36
      go_wp2
      go_ret
      exact ⟨_, rfl, by rw [HOP.out]; exact OwB.nil _ _, bl_a (Below.refl _ _) _⟩
    · have h2 : 38 ≤ o := by omega
      clear hk
      go_enter Tryd.func36, Tryd.ntmps36
      go_wp2
      go_ret
      exact ⟨_, rfl, by rw [HOP.out]; exact OwB.nil _ _, bl_a (Below.refl _ _) _⟩
end Go.Proofs.YtbcpopakdlplgaaDoor
