/- Contracts of clewref19.nothing and clewref19.Line. -/
import Derived.Test.YtjggklfegcejhaaGreatFitsD
namespace Go.Proofs.YtjggklfegcejhaaGreat
open Go.RowKit Go.PlainAid
set_option linter.unusedVariables false
set_option linter.unusedSimpArgs false

theorem bne0 {n : Int} (h : (n != 0) = false) : n = 0 := by simpa using h
/-- The nothing. -/
def NoneOk (t : TbC) (y : ThC) : Prop := y.ti = 0 ∧ y.tx = -1 ∧ y.pa = 0 ∧ y.fl = 0 ∧ y.rm = false ∧ y.pr.length = t.pr.length ∧ y.wd.length + y.ad.length + y.wy.length = 0 ∧ ∀ n ∈ y.pr, n = 0
theorem sum3 {a b c : Nat} (ha : a ≤ reachBytes) (hb : b ≤ reachBytes) (hc : c ≤ reachBytes) : IntKind.i64.wrap ((a : Int) + b) = (a : Int) + b ∧ IntKind.i64.wrap ((a : Int) + b + c) = (a : Int) + b + c := by
  unfold reachBytes at *
  exact ⟨IntWalk.i64_in _ (by omega), IntWalk.i64_in _ (by omega)⟩
set_option maxRecDepth 100000 in
set_option maxHeartbeats 4000000 in
theorem refNothing (x : TAd) (t : TbC) (y : ThC) (a5 a6 a7 a8 : Option Addr) (c5 c6 c7 c8 : Nat) (w : World) (hy : ThIs w (.slice a5 y.pr.length c5) (.slice a6 y.wd.length c6) (.slice a7 y.ad.length c7) (.slice a8 y.wy.length c8) y) :
    Calls Tryz.prog 81 #[tabV x t, .agg #[.int .i64 y.ti, .int .i64 y.tx, .int .i64 y.pa, .int .i64 y.fl, .bool y.rm, .slice a5 y.pr.length c5, .slice a6 y.wd.length c6, .slice a7 y.ad.length c7, .slice a8 y.wy.length c8]] w (IffW (NoneOk t y) w) := by
  have hs := sum3 hy.wd.le hy.ad.le hy.wy.le
  obtain ⟨hs1, hs2⟩ := hs
  have hm := reads_few hy.pr
  unfold maxLen at hm
  have HP := Lib.hid hy.pr
  clear hy
  obtain ⟨W0, hW0⟩ : ∃ W0, (tabW w x t).alloc (.cells #[.int .i64 y.ti, .int .i64 y.tx, .int .i64 y.pa, .int .i64 y.fl, .bool y.rm, .slice a5 y.pr.length c5, .slice a6 y.wd.length c6, .slice a7 y.ad.length c7, .slice a8 y.wy.length c8] 64) = W0 := ⟨_, rfl⟩
  have HB0 : Hid (Below w.heap.size w W0) := Lib.hid (by rw [← hW0]; exact bl_a (bl_tab w x t) _)
  have HK0 : Hid (BK W0 w.heap.size (tabC x t) 28) := Lib.hid (by rw [← hW0]; exact (BK.new w (tabC x t) 28).alloc _)
  have HY0 : Hid (BK W0 (w.heap.size + 1) [.int .i64 y.ti, .int .i64 y.tx, .int .i64 y.pa, .int .i64 y.fl, .bool y.rm, .slice a5 y.pr.length c5, .slice a6 y.wd.length c6, .slice a7 y.ad.length c7, .slice a8 y.wy.length c8] 64) := Lib.hid (by
    rw [← hW0]
    have := BK.new (tabW w x t) [.int .i64 y.ti, .int .i64 y.tx, .int .i64 y.pa, .int .i64 y.fl, .bool y.rm, .slice a5 y.pr.length c5, .slice a6 y.wd.length c6, .slice a7 y.ad.length c7, .slice a8 y.wy.length c8] 64
    rw [World.size_alloc] at this; exact this)
  have HQ := Lib.hid (HP.out.below HB0.out)
  unfold tabW tabC at hW0
  unfold tabV tabC
  have k6 := HK0.out.cell 6
  have y0 := HY0.out.cell 0
  have y1 := HY0.out.cell 1
  have y2 := HY0.out.cell 2
  have y3 := HY0.out.cell 3
  have y4 := HY0.out.cell 4
  have y5 := HY0.out.cell 5
  have y6 := HY0.out.cell 6
  have y7 := HY0.out.cell 7
  have y8 := HY0.out.cell 8
  simp only [tabC, List.getElem?_cons_zero, List.getElem?_cons_succ] at k6 y0 y1 y2 y3 y4 y5 y6 y7 y8
  go_enter Tryz.func81, Tryz.ntmps81
  go_wp2_with fail
  all_goals first
    | (go_ret
       refine IffW.f HB0.out (fun h => ?_)
       obtain ⟨h1, h2, h3, h4, h5, h6, h7, h8⟩ := h
       clear y0 y1 y2 y3 y4 y5 y6 y7 y8 k6 HB0 HK0 HY0 HQ HP hW0
       first | contradiction | omega | (simp_all; done) | (simp_all; omega))
    | skip
  rename_i h1 h2 h3 h4 h5 h6 h7 K1 K2
  have HN : Hid (NoneOk t y ↔ ∀ n ∈ y.pr, n = 0) := Lib.hid (by
    have e7 : (y.wd.length : Int) + y.ad.length + y.wy.length = 0 := by simpa using h7
    exact ⟨fun h => h.2.2.2.2.2.2.2, fun h => ⟨h1, h2, h3, h4, by simpa using h5, by omega, by omega, h⟩⟩)
  clear h1 h2 h3 h4 h5 h6 h7 hW0
  go_loop [5] (fun i => ∃ (p : Nat), i = .int .i64 p ∧ p ≤ y.pr.length ∧ Hid (∀ n ∈ y.pr.take p, n = 0)) (fun i => y.pr.length - (intOf i).toNat)
  case atStart => exact ⟨0, rfl, Nat.zero_le _, Lib.hid (fun n h => by simp at h)⟩
  case round =>
    obtain ⟨p, rfl, hpl, HI⟩ := hrel
    by_cases hlt : p < y.pr.length
    · obtain ⟨b, off, cap, hv, hcap, hblt, hcell⟩ := int_open HQ.out (by omega)
      have hac : a5 = some ⟨b, off, none⟩ := by simp at hv; exact hv.1
      have e0 := hcell p hlt
      have HM := Lib.hid (List.getElem_mem hlt)
      have HT : Hid (y.pr[p] = 0 → ∀ n ∈ y.pr.take (p + 1), n = 0) := Lib.hid (take_all hlt HI.out)
      generalize y.pr[p] = n at e0 HM HT
      rw [hac] at y5
      clear hcell hv hac
      go_wp2
      · go_ret
        refine IffW.f HB0.out (fun h => ?_)
        have h9 := HN.out.1 h n HM.out
        subst h9
        contradiction
      · go_round
        case rel => exact ⟨p + 1, by go_num, by omega, Lib.hid (HT.out (bne0 (by assumption)))⟩
        case measure => simp [intOf]; omega
    · have HA := Lib.hid (take_full hlt HI.out)
      go_wp2
      go_ret
      exact IffW.t HB0.out (HN.out.2 HA.out)
/-- How many slots ask for things. -/
def nounsN (l : List SlC) : Nat := (l.filter fun s => s.kd == 2 || s.kd == 3).length
theorem nounsN_snoc (l : List SlC) (s : SlC) : nounsN (l ++ [s]) = nounsN l + (if s.kd = 2 ∨ s.kd = 3 then 1 else 0) := by
  unfold nounsN
  rw [List.filter_append, List.length_append]
  by_cases h : s.kd = 2 ∨ s.kd = 3
  · rw [if_pos h, List.filter_cons_of_pos (by simpa using h)]; rfl
  · rw [if_neg h, List.filter_cons_of_neg (by simpa using h)]; rfl
/-- A slot of a line. -/
def SlotOk (s : SlC) : Prop := 1 ≤ s.kd ∧ s.kd ≤ 5 ∧ (∀ x ∈ s.wd, WordOk x) ∧ s.wd.length ≤ 4 ∧ (s.kd = 1 → 0 < s.wd.length) ∧ (s.kd ≠ 1 → s.wd.length = 0)
/-- A verb's line. -/
def LineOk (l : List SlC) : Prop := (∀ s ∈ l, SlotOk s) ∧ 1 ≤ l.length ∧ l.length ≤ 8 ∧ nounsN l ≤ 2
set_option maxRecDepth 100000 in
set_option maxHeartbeats 40000000 in
theorem refLine (v : Value) (l : List SlC) (w : World) (hv : Reads Cd.sl.sq w v l) :
    Calls Tryz.prog 87 #[v] w (OneW (LineOk l) w) := by
  obtain ⟨a0, c0, hv0, hc0, hm0⟩ := hv.q.len
  subst hv0
  unfold maxLen at hm0
  have HV := Lib.hid hv
  clear hv
  have hr := HV.out.le
  unfold reachBytes at hr
  go_enter Tryz.func87, Tryz.ntmps87
  go_wp2
  go_loopw [3, 4, 5, 6] (fun n3 n4 n5 i wr => ∃ (p j k : Nat), i = .int .i64 p ∧ n3 = .int .i64 (nounsN (l.take p)) ∧ n4 = .int .i64 j ∧ n5 = .int .i64 k ∧ p ≤ l.length ∧ j ≤ p ∧ k ≤ p ∧ Hid (Below w.heap.size w wr) ∧ Hid (∀ s ∈ l.take p, SlotOk s)) (fun _ _ _ i _ => l.length - (intOf i).toNat)
  case atStart => exact ⟨0, 0, 0, rfl, rfl, rfl, rfl, Nat.zero_le _, Nat.zero_le _, Nat.zero_le _, Lib.hid (Below.refl _ _), Lib.hid (fun s h => by simp at h)⟩
  case round =>
    obtain ⟨p, j, k, rfl, rfl, rfl, rfl, hpl, hjp, hkp, hB, HI⟩ := hrel
    by_cases hlt : p < l.length
    · obtain ⟨b, off, cap, hv, hcap, hblt, hcell⟩ := sl_open (HV.out.below hB.out) (by omega)
      have hac : a0 = some ⟨b, off, none⟩ := by simp at hv; exact hv.1
      subst hac
      obtain ⟨u, hu, e0, e1⟩ := hcell p hlt
      have HT : Hid (SlotOk l[p] → ∀ s ∈ l.take (p + 1), SlotOk s) := Lib.hid (take_all hlt HI.out)
      have HN : Hid (nounsN (l.take (p + 1)) = nounsN (l.take p) + (if l[p].kd = 2 ∨ l[p].kd = 3 then 1 else 0)) := Lib.hid (by rw [List.take_succ_eq_append_getElem hlt, nounsN_snoc])
      have hn3 : nounsN (l.take p) ≤ p := by
        unfold nounsN
        exact Nat.le_trans (List.length_filter_le _ _) (by simp; omega)
      generalize nounsN (l.take p) = n3 at HN hn3
      generalize l[p] = s at hu e0 e1 HT HN
      obtain ⟨ua, uc, hu1, _, _⟩ := hu.q.len
      subst hu1
      have HU := Lib.hid hu
      unfold SlotOk at HT
      generalize s.wd = wd at HU e1 HT
      generalize s.kd = kd at e0 HT HN
      clear hcell hv hu HI
      have HFR := Lib.hid (fun w => (refFrom kd 1 5 w).mono fun e w' h => IffB.val h)
      have HWO := Lib.hid (fun w' (hb : Below wr.heap.size wr w') => (refWords19 _ wd 4 w' (HU.out.below hb)).mono fun e w' h => IffB.val h)
      have hb1 : pB (1 ≤ kd ∧ kd ≤ 5) = true ↔ 1 ≤ kd ∧ kd ≤ 5 := pB_iff
      have hb2 : pB ((∀ x ∈ wd, WordOk x) ∧ (wd.length : Int) ≤ 4) = true ↔ _ := pB_iff
      generalize pB (1 ≤ kd ∧ kd ≤ 5) = b1 at HFR hb1
      generalize pB ((∀ x ∈ wd, WordOk x) ∧ (wd.length : Int) ≤ 4) = b2 at HWO hb2
      have HB1 := Lib.hid hb1
      have HB2 := Lib.hid hb2
      have hq1 : IntKind.i64.wrap ((n3 : Int) + 1) = (n3 : Int) + 1 := IntWalk.i64_in _ (by omega)
      have hq2 : IntKind.i64.wrap ((j : Int) + 1) = (j : Int) + 1 := IntWalk.i64_in _ (by omega)
      have hq3 : IntKind.i64.wrap ((k : Int) + 1) = (k : Int) + 1 := IntWalk.i64_in _ (by omega)
      clear hb1 hb2
      have hk0 : (0 : Int) ≤ (p : Int) := by omega
      have hk1 : (p : Int) < (l.length : Int) := by omega
      obtain ⟨m, hm⟩ : ∃ m, wd.length = m := ⟨_, rfl⟩
      rw [hm] at e1 HWO HB2 HT
      clear hm HU
      cases b1 with
      | false =>
        go_wp2_with (go_at_call 56; refine (HFR.out _).mono ?_; rintro e w' ⟨rfl, rfl⟩)
        go_ret
        exact OneW.f (bl_a hB.out _)
      | true =>
        have hk := HB1.out.1 rfl
        clear HB1
        by_cases h1 : kd = 1
        · subst h1
          rcases Nat.eq_zero_or_pos m with rfl | hz
          · go_wp2_with (first
              | (go_at_call 56; refine (HFR.out _).mono ?_; rintro e w' ⟨rfl, rfl⟩)
              | (go_at_call 82; refine (HWO.out _ (by go_grown)).mono ?_; rintro e w' ⟨rfl, rfl⟩))
            go_ret
            exact OneW.f (bl_a hB.out _)
          · have hz1 : ((m : Int) == 0) = false := beq_eq_false_iff_ne.2 (by omega)
            have HS := fun h => Lib.hid (HT.out ⟨by decide, by decide, (HB2.out.1 h).1, by have := (HB2.out.1 h).2; omega, fun _ => hz, fun h => absurd rfl h⟩)
            cases b2 with
            | false =>
              clear HS
              go_wp2_with (first
                | (go_at_call 56; refine (HFR.out _).mono ?_; rintro e w' ⟨rfl, rfl⟩)
                | (go_at_call 82; refine (HWO.out _ (by go_grown)).mono ?_; rintro e w' ⟨rfl, rfl⟩))
              go_ret
              exact OneW.f (bl_a hB.out _)
            | true =>
              replace HS := HS rfl
              clear hk
              go_wp2_with (first
                | (go_at_call 56; refine (HFR.out _).mono ?_; rintro e w' ⟨rfl, rfl⟩)
                | (go_at_call 82; refine (HWO.out _ (by go_grown)).mono ?_; rintro e w' ⟨rfl, rfl⟩))
              go_roundw
              case rel => exact ⟨p + 1, j, k, by go_num, by rw [HN.out]; first | (go_num; done) | (simp; done) | (simp [*]; done) | (simp [*]; omega), by go_num, by go_num, by omega, by omega, by omega, Lib.hid (bl_a hB.out _), HS⟩
              case measure => simp [intOf]; omega
        · have hk4 : kd = 2 ∨ kd = 3 ∨ kd = 4 ∨ kd = 5 := by omega
          clear hk h1
          rcases hk4 with rfl | rfl | rfl | rfl
          · rcases Nat.eq_zero_or_pos m with rfl | hz
            · have HS := fun h => Lib.hid (HT.out ⟨by decide, by decide, (HB2.out.1 h).1, by decide, fun h => absurd h (by decide), fun _ => rfl⟩)
              cases b2 with
              | false =>
                clear HS
                go_wp2_with (first
                  | (go_at_call 56; refine (HFR.out _).mono ?_; rintro e w' ⟨rfl, rfl⟩)
                  | (go_at_call 82; refine (HWO.out _ (by go_grown)).mono ?_; rintro e w' ⟨rfl, rfl⟩))
                go_ret
                exact OneW.f (bl_a hB.out _)
              | true =>
                replace HS := HS rfl
                go_wp2_with (first
                  | (go_at_call 56; refine (HFR.out _).mono ?_; rintro e w' ⟨rfl, rfl⟩)
                  | (go_at_call 82; refine (HWO.out _ (by go_grown)).mono ?_; rintro e w' ⟨rfl, rfl⟩))
                go_roundw
                case rel => exact ⟨p + 1, j, k, by go_num, by rw [HN.out]; first | (go_num; done) | (simp; done) | (simp [*]; done) | (simp [*]; omega), by go_num, by go_num, by omega, by omega, by omega, Lib.hid (bl_a hB.out _), HS⟩
                case measure => simp [intOf]; omega
            · have hz1 : (0 : Int) < (m : Int) := by omega
              go_wp2_with (first
                | (go_at_call 56; refine (HFR.out _).mono ?_; rintro e w' ⟨rfl, rfl⟩)
                | (go_at_call 82; refine (HWO.out _ (by go_grown)).mono ?_; rintro e w' ⟨rfl, rfl⟩))
              go_ret
              exact OneW.f (bl_a hB.out _)
          · rcases Nat.eq_zero_or_pos m with rfl | hz
            · have HS := fun h => Lib.hid (HT.out ⟨by decide, by decide, (HB2.out.1 h).1, by decide, fun h => absurd h (by decide), fun _ => rfl⟩)
              cases b2 with
              | false =>
                clear HS
                go_wp2_with (first
                  | (go_at_call 56; refine (HFR.out _).mono ?_; rintro e w' ⟨rfl, rfl⟩)
                  | (go_at_call 82; refine (HWO.out _ (by go_grown)).mono ?_; rintro e w' ⟨rfl, rfl⟩))
                go_ret
                exact OneW.f (bl_a hB.out _)
              | true =>
                replace HS := HS rfl
                go_wp2_with (first
                  | (go_at_call 56; refine (HFR.out _).mono ?_; rintro e w' ⟨rfl, rfl⟩)
                  | (go_at_call 82; refine (HWO.out _ (by go_grown)).mono ?_; rintro e w' ⟨rfl, rfl⟩))
                go_roundw
                case rel => exact ⟨p + 1, j, k, by go_num, by rw [HN.out]; first | (go_num; done) | (simp; done) | (simp [*]; done) | (simp [*]; omega), by go_num, by go_num, by omega, by omega, by omega, Lib.hid (bl_a hB.out _), HS⟩
                case measure => simp [intOf]; omega
            · have hz1 : (0 : Int) < (m : Int) := by omega
              go_wp2_with (first
                | (go_at_call 56; refine (HFR.out _).mono ?_; rintro e w' ⟨rfl, rfl⟩)
                | (go_at_call 82; refine (HWO.out _ (by go_grown)).mono ?_; rintro e w' ⟨rfl, rfl⟩))
              go_ret
              exact OneW.f (bl_a hB.out _)
          · rcases Nat.eq_zero_or_pos m with rfl | hz
            · have HS := fun h => Lib.hid (HT.out ⟨by decide, by decide, (HB2.out.1 h).1, by decide, fun h => absurd h (by decide), fun _ => rfl⟩)
              cases b2 with
              | false =>
                clear HS
                go_wp2_with (first
                  | (go_at_call 56; refine (HFR.out _).mono ?_; rintro e w' ⟨rfl, rfl⟩)
                  | (go_at_call 82; refine (HWO.out _ (by go_grown)).mono ?_; rintro e w' ⟨rfl, rfl⟩))
                go_ret
                exact OneW.f (bl_a hB.out _)
              | true =>
                replace HS := HS rfl
                go_wp2_with (first
                  | (go_at_call 56; refine (HFR.out _).mono ?_; rintro e w' ⟨rfl, rfl⟩)
                  | (go_at_call 82; refine (HWO.out _ (by go_grown)).mono ?_; rintro e w' ⟨rfl, rfl⟩))
                go_roundw
                case rel => exact ⟨p + 1, (j + 1), k, by go_num, by rw [HN.out]; first | (go_num; done) | (simp; done) | (simp [*]; done) | (simp [*]; omega), by go_num, by go_num, by omega, by omega, by omega, Lib.hid (bl_a hB.out _), HS⟩
                case measure => simp [intOf]; omega
            · have hz1 : (0 : Int) < (m : Int) := by omega
              go_wp2_with (first
                | (go_at_call 56; refine (HFR.out _).mono ?_; rintro e w' ⟨rfl, rfl⟩)
                | (go_at_call 82; refine (HWO.out _ (by go_grown)).mono ?_; rintro e w' ⟨rfl, rfl⟩))
              go_ret
              exact OneW.f (bl_a hB.out _)
          · rcases Nat.eq_zero_or_pos m with rfl | hz
            · have HS := fun h => Lib.hid (HT.out ⟨by decide, by decide, (HB2.out.1 h).1, by decide, fun h => absurd h (by decide), fun _ => rfl⟩)
              cases b2 with
              | false =>
                clear HS
                go_wp2_with (first
                  | (go_at_call 56; refine (HFR.out _).mono ?_; rintro e w' ⟨rfl, rfl⟩)
                  | (go_at_call 82; refine (HWO.out _ (by go_grown)).mono ?_; rintro e w' ⟨rfl, rfl⟩))
                go_ret
                exact OneW.f (bl_a hB.out _)
              | true =>
                replace HS := HS rfl
                go_wp2_with (first
                  | (go_at_call 56; refine (HFR.out _).mono ?_; rintro e w' ⟨rfl, rfl⟩)
                  | (go_at_call 82; refine (HWO.out _ (by go_grown)).mono ?_; rintro e w' ⟨rfl, rfl⟩))
                go_roundw
                case rel => exact ⟨p + 1, j, (k + 1), by go_num, by rw [HN.out]; first | (go_num; done) | (simp; done) | (simp [*]; done) | (simp [*]; omega), by go_num, by go_num, by omega, by omega, by omega, Lib.hid (bl_a hB.out _), HS⟩
                case measure => simp [intOf]; omega
            · have hz1 : (0 : Int) < (m : Int) := by omega
              go_wp2_with (first
                | (go_at_call 56; refine (HFR.out _).mono ?_; rintro e w' ⟨rfl, rfl⟩)
                | (go_at_call 82; refine (HWO.out _ (by go_grown)).mono ?_; rintro e w' ⟨rfl, rfl⟩))
              go_ret
              exact OneW.f (bl_a hB.out _)
    · have hp : l.take p = l := List.take_of_length_le (by omega)
      rw [hp] at HI
      have HN3 : Hid (nounsN l = nounsN (l.take p)) := Lib.hid (by rw [hp])
      generalize nounsN (l.take p) = n3 at HN3
      have HFR := Lib.hid (fun w => (refFrom (l.length : Int) 1 8 w).mono fun e w' h => IffB.val h)
      have hb1 : pB (1 ≤ (l.length : Int) ∧ (l.length : Int) ≤ 8) = true ↔ 1 ≤ (l.length : Int) ∧ (l.length : Int) ≤ 8 := pB_iff
      generalize pB (1 ≤ (l.length : Int) ∧ (l.length : Int) ≤ 8) = b1 at HFR hb1
      have HB1 := Lib.hid hb1
      clear hb1 hp
      cases b1 with
      | false =>
        go_wp2_with (go_at_call 56; refine (HFR.out _).mono ?_; rintro e w' ⟨rfl, rfl⟩)
        go_ret
        exact OneW.f hB.out
      | true =>
        have hln := HB1.out.1 rfl
        obtain ⟨b, off, cap, hv, hcap, hblt, hcell⟩ := sl_open (HV.out.below hB.out) (by omega)
        have hac : a0 = some ⟨b, off, none⟩ := by simp at hv; exact hv.1
        subst hac
        obtain ⟨u, hu, e0, e1⟩ := hcell 0 (by omega)
        simp only [Nat.zero_mul, Nat.add_zero] at e0
        generalize l[0].kd = kd at e0
        clear hcell hv hu e1
        have hl0 : (0 : Int) < (l.length : Int) := by omega
        have hl1 : 0 < l.length := by omega
        go_wp2_with (go_at_call 56; refine (HFR.out _).mono ?_; rintro e w' ⟨rfl, rfl⟩)
        all_goals
          go_ret
          refine ⟨_, rfl, fun hb => ⟨HI.out, by omega, by omega, by rw [HN3.out]; first | omega | (simp_all; done) | (simp at hb; omega) | (simp_all; omega)⟩, hB.out⟩
end Go.Proofs.YtjggklfegcejhaaGreat
