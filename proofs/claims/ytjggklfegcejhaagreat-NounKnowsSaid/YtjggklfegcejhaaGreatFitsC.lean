/- Contracts of clewref19's functions over tables, one-sided: loops over things. -/
import Derived.Test.YtjggklfegcejhaaGreatFitsB
namespace Go.Proofs.YtjggklfegcejhaaGreat
open Go.RowKit Go.PlainAid
set_option linter.unusedVariables false
set_option linter.unusedSimpArgs false

/-- 2 to the power of flags, 16 at most. -/
def bitsN (n : Int) : Int := 2 ^ (min n.toNat 16)
theorem bitsN_le (n : Int) : bitsN n ≤ 65536 := by
  unfold bitsN
  have h : (2 : Nat) ^ (min n.toNat 16) ≤ 2 ^ 16 := Nat.pow_le_pow_right (by decide) (Nat.min_le_right _ _)
  have : ((2 : Int) ^ (min n.toNat 16)) = ((2 ^ (min n.toNat 16) : Nat) : Int) := by norm_cast
  rw [this]; omega
theorem bitsN_pos (n : Int) : 1 ≤ bitsN n := by
  unfold bitsN
  have h : 0 < (2 : Nat) ^ (min n.toNat 16) := Nat.pow_pos (by decide)
  have : ((2 : Int) ^ (min n.toNat 16)) = ((2 ^ (min n.toNat 16) : Nat) : Int) := by norm_cast
  rw [this]; omega
theorem bits_at {n : Int} {j q : Nat} (hj : j ≤ min n.toNat 16) (hq : q = 2 ^ j) (he : ¬ ((j : Int) < n ∧ j < 16)) : Ending.returned (.int .i64 (q : Int)) = .returned (.int .i64 (bitsN n)) := by
  have : j = min n.toNat 16 := by omega
  unfold bitsN
  rw [hq, this]; norm_cast
set_option maxRecDepth 100000 in
theorem refBits (n : Int) (w : World) : Calls Tryz.prog 54 #[.int .i64 n] w fun e w' => e = .returned (.int .i64 (bitsN n)) ∧ w = w' := by
  go_enter Tryz.func54, Tryz.ntmps54
  go_wp2
  go_loop [3, 4] (fun p i => ∃ (j q : Nat), i = .int .i64 j ∧ p = .int .i64 q ∧ j ≤ min n.toNat 16 ∧ q = 2 ^ j) (fun _ i => 16 - (intOf i).toNat)
  case atStart => exact ⟨0, 1, rfl, rfl, by omega, rfl⟩
  case round =>
    obtain ⟨j, q, rfl, rfl, hj, hq⟩ := hrel
    have hq0 : q ≤ 65536 := by rw [hq]; exact Nat.le_trans (Nat.pow_le_pow_right (by decide) (show j ≤ 16 by omega)) (by decide)
    have hw : IntKind.i64.wrap (2 * (q : Int)) = 2 * (q : Int) := IntWalk.i64_in _ (by omega)
    have HQ := Lib.hid hq
    clear hq
    by_cases h1 : (j : Int) < n
    · by_cases h16 : j < 16
      · go_wp2
        go_round
        case rel => exact ⟨j + 1, 2 * q, by go_num, by go_num, by omega, by rw [HQ.out, Nat.pow_succ]; omega⟩
        case measure => simp [intOf]; omega
      · go_wp2
        go_ret
        exact ⟨bits_at hj HQ.out (by omega), rfl⟩
    · go_wp2
      all_goals
        go_ret
        exact ⟨bits_at hj HQ.out (by omega), rfl⟩
/-- All parents are things, or none. -/
def Parents (t : TbC) : Prop := ∀ y ∈ t.th, 0 ≤ y.pa ∧ y.pa < t.th.length
set_option maxRecDepth 100000 in
set_option maxHeartbeats 1000000 in
theorem refEnds (x : TAd) (t : TbC) (n : Int) (w : World) (ht : TabIs w x t) (hp : Parents t) (h0 : 0 ≤ n) (h1 : n < t.th.length) :
    Calls Tryz.prog 85 #[tabV x t, .int .i64 n] w (OneW True w) := by
  have hm := reads_few ht.th
  unfold maxLen at hm
  have HB0 := Lib.hid (bl_tab w x t)
  have HK0 : Hid (BK (tabW w x t) w.heap.size (tabC x t) 28) := Lib.hid (BK.new w (tabC x t) 28)
  obtain ⟨W0, hW0⟩ : ∃ W0, tabW w x t = W0 := ⟨_, rfl⟩
  rw [hW0] at HB0 HK0
  unfold tabW tabC at hW0
  unfold tabV tabC
  have HT := Lib.hid (ht.th.below HB0.out)
  have HP := Lib.hid hp
  clear ht hp
  obtain ⟨n, rfl⟩ : ∃ k : Nat, n = k := ⟨n.toNat, by omega⟩
  have hnl : n < t.th.length := by omega
  clear h0 h1
  go_enter Tryz.func85, Tryz.ntmps85
  go_wp2_with fail
  clear hW0
  go_loop [1, 5] (fun y i => ∃ (p q : Nat), i = .int .i64 p ∧ y = .int .i64 q ∧ p ≤ t.th.length ∧ q < t.th.length) (fun _ i => t.th.length - (intOf i).toNat)
  case atStart => exact ⟨0, n, rfl, rfl, Nat.zero_le _, hnl⟩
  case round =>
    obtain ⟨p, q, rfl, rfl, hpl, hql⟩ := hrel
    obtain ⟨kt0, kt1, kt2, kt3, kt4, kt5, kt6, kt7, kt8, kt9, kt10, kt11, kt12, kt13, kt14⟩ := tab15 (HK0.out)
    by_cases hlt : p < t.th.length
    · obtain ⟨b, off, cap, hv, hcap, hblt, hcell⟩ := th_open HT.out (by omega)
      have hac : x.a8 = some ⟨b, off, none⟩ := by simp at hv; exact hv.1
      obtain ⟨r1, r2, r3, r4, hth, hrow⟩ := hcell q hql
      have e2 := hrow 2 (by decide)
      have hpq := HP.out _ (List.getElem_mem hql)
      simp only [thRow, List.getElem?_cons_zero, List.getElem?_cons_succ] at e2
      generalize t.th[q].pa = pa at e2 hpq
      obtain ⟨k, rfl⟩ : ∃ k : Nat, pa = k := ⟨pa.toNat, by omega⟩
      have hk : k < t.th.length := by omega
      have hq0 : (0 : Int) ≤ (q : Int) := by omega
      have hq1 : (q : Int) < (t.th.length : Int) := by omega
      rw [hac] at kt8
      clear hcell hv hrow hpq hth hac
      go_wp2
      all_goals first
        | (go_ret; exact OneW.t HB0.out trivial)
        | (go_round
           case rel => exact ⟨p + 1, k, by go_num, rfl, by omega, hk⟩
           case measure => simp [intOf]; omega)
    · go_wp2
      go_ret
      exact OneW.f HB0.out
set_option maxRecDepth 100000 in
set_option maxHeartbeats 1000000 in
theorem refRoom (x : TAd) (t : TbC) (n : Int) (w : World) (ht : TabIs w x t) :
    Calls Tryz.prog 86 #[tabV x t, .int .i64 n] w (OneW True w) := by
  have hm := reads_few ht.th
  have hm0 := hm
  unfold maxLen at hm
  have HB0 := Lib.hid (bl_tab w x t)
  have HK0 : Hid (BK (tabW w x t) w.heap.size (tabC x t) 28) := Lib.hid (BK.new w (tabC x t) 28)
  obtain ⟨W0, hW0⟩ : ∃ W0, tabW w x t = W0 := ⟨_, rfl⟩
  rw [hW0] at HB0 HK0
  unfold tabW tabC at hW0
  unfold tabV tabC
  have HT := Lib.hid (ht.th.below HB0.out)
  have HC := Lib.hid (fun n w => refThing x t n w hm0)
  unfold tabV tabC at HC
  clear ht hm0
  go_enter Tryz.func86, Tryz.ntmps86
  go_wp2_with fail
  clear hW0
  go_loopw [1, 5] (fun y i wr => ∃ (p : Nat) (q : Int), i = .int .i64 p ∧ y = .int .i64 q ∧ p ≤ t.th.length ∧ Hid (Below W0.heap.size W0 wr)) (fun _ i _ => t.th.length - (intOf i).toNat)
  case atStart => exact ⟨0, n, rfl, rfl, Nat.zero_le _, Lib.hid (Below.refl _ _)⟩
  case round =>
    obtain ⟨p, q, rfl, rfl, hpl, hB⟩ := hrel
    have HKr := Lib.hid (HK0.out.below hB.out)
    have HBr := Lib.hid (bl_then HB0.out hB.out)
    obtain ⟨kt0, kt1, kt2, kt3, kt4, kt5, kt6, kt7, kt8, kt9, kt10, kt11, kt12, kt13, kt14⟩ := tab15 (HKr.out)
    by_cases hlt : p < t.th.length
    · go_wp2_with fail
      refine (HC.out q wr).mono ?_
      rintro e w1 ⟨b1, rfl, hb1, hb2⟩
      cases b1 with
      | false =>
        have HB2 := Lib.hid (bl_then HBr.out hb2)
        clear hb1 hb2
        go_wp2
        go_ret
        exact OneW.f HB2.out
      | true =>
        have hq : 1 ≤ q ∧ q < t.th.length := hb1.1 rfl
        have HB2 := Lib.hid (bl_then hB.out hb2)
        have HB3 := Lib.hid (bl_then HBr.out hb2)
        have HK2 := Lib.hid (HKr.out.below hb2)
        have kq := HK2.out.cell 8
        simp only [tabC, List.getElem?_cons_zero, List.getElem?_cons_succ] at kq
        obtain ⟨q, rfl⟩ : ∃ k : Nat, q = k := ⟨q.toNat, by omega⟩
        have hql : q < t.th.length := by omega
        obtain ⟨b, off, cap, hv, hcap, hblt, hcell⟩ := th_open (HT.out.below HB2.out) (by omega)
        have hac : x.a8 = some ⟨b, off, none⟩ := by simp at hv; exact hv.1
        obtain ⟨r1, r2, r3, r4, hth, hrow⟩ := hcell q hql
        have e2 := hrow 2 (by decide)
        have e4 := hrow 4 (by decide)
        simp only [thRow, List.getElem?_cons_zero, List.getElem?_cons_succ] at e2 e4
        generalize t.th[q].pa = pa at e2
        generalize t.th[q].rm = rm at e4
        have hq0 : (0 : Int) ≤ (q : Int) := by omega
        have hq1 : (q : Int) < (t.th.length : Int) := by omega
        rw [hac] at kq
        clear hcell hv hrow hth hac hb1 hb2 hq
        go_wp2
        all_goals first
          | (go_ret; exact OneW.t HB3.out trivial)
          | (go_roundw
             case rel => exact ⟨p + 1, pa, by go_num, rfl, by omega, HB2⟩
             case measure => simp [intOf]; omega)
    · go_wp2
      go_ret
      exact OneW.f HBr.out
end Go.Proofs.YtjggklfegcejhaaGreat
