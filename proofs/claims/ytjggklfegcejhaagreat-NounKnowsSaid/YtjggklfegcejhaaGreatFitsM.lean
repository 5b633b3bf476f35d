/- Verbs and lines: where they lie.; Contract of clewref19.rules.; Contract of clewref19.Fits: what true says of tables. -/
import Derived.Test.YtjggklfegcejhaaGreatTab
import Derived.Test.YtjggklfegcejhaaGreatFitsE
import Derived.Test.YtjggklfegcejhaaGreatFitsH
import Derived.Test.YtjggklfegcejhaaGreatFitsT
namespace Go.Proofs.YtjggklfegcejhaaGreat
open Go.RowKit Go.PlainAid
set_option linter.unusedVariables false
set_option linter.unusedSimpArgs false

/-- Acts: where they lie. -/
theorem ac_open {w : World} {v : Value} {l : List AcC} (h : Reads Cd.ac.sq w v l) (hn : 0 < l.length) :
    ∃ b off cap, v = .slice (some ⟨b, off, none⟩) l.length cap ∧ l.length ≤ cap ∧ b < w.heap.size ∧ ∀ i (hi : i < l.length), ∃ u, Reads Cd.sl.sq.sq w u l[i].ln ∧ w.cell? ⟨b, off + i * 2, none⟩ = some (.bool l[i].me) ∧ w.cell? ⟨b, off + i * 2 + 1, none⟩ = some u := by
  obtain ⟨b, off, cap, h1, h2, h3, h4⟩ := h.q.open hn
  refine ⟨b, off, cap, h1, h2, h3, fun i hi => ?_⟩
  obtain ⟨row, r1, ⟨u, r2, r4⟩, r3⟩ := h4 i hi
  subst r2
  exact ⟨u, r4, r3 0 (by decide), r3 1 (by decide)⟩
/-- Lines: where they lie. -/
theorem ln_open {w : World} {v : Value} {l : List (List SlC)} (h : Reads Cd.sl.sq.sq w v l) (hn : 0 < l.length) :
    ∃ b off cap, v = .slice (some ⟨b, off, none⟩) l.length cap ∧ l.length ≤ cap ∧ b < w.heap.size ∧ ∀ i (hi : i < l.length), ∃ u, Reads Cd.sl.sq w u l[i] ∧ w.cell? ⟨b, off + i, none⟩ = some u := by
  obtain ⟨b, off, cap, h1, h2, h3, h4⟩ := h.q.open hn
  refine ⟨b, off, cap, h1, h2, h3, fun i hi => ?_⟩
  obtain ⟨row, r1, r2, r3⟩ := h4 i hi
  obtain ⟨u, rows, e, hu⟩ := r2.1
  subst e
  have := r3 0 (by decide)
  have e1 : Cd.sl.sq.k = 1 := rfl
  rw [e1, Nat.mul_one, Nat.add_zero] at this
  exact ⟨u, r2, this⟩
end Go.Proofs.YtjggklfegcejhaaGreat
namespace Go.Proofs.YtjggklfegcejhaaGreat
open Go.RowKit Go.PlainAid
set_option linter.unusedVariables false
set_option linter.unusedSimpArgs false

/-- Verbs, rules, functions, daemons. -/
structure RulesOk (t : TbC) : Prop where
  ac : t.ac.length ≤ 64
  dd : t.dd.length ≤ 512
  fu : t.fu.length ≤ 64
  da : t.da.length ≤ 16
  ln : ∀ a ∈ t.ac, (1 ≤ a.ln.length ∧ a.ln.length ≤ 8) ∧ ∀ l ∈ a.ln, LineOk l
/-- Deeds: where they lie. -/
theorem dd_open {w : World} {v : Value} {l : List DdC} (h : Reads Cd.dd.sq w v l) (hn : 0 < l.length) :
    ∃ b off cap, v = .slice (some ⟨b, off, none⟩) l.length cap ∧ l.length ≤ cap ∧ b < w.heap.size ∧ ∀ i (hi : i < l.length), w.cell? ⟨b, off + i * 6, none⟩ = some (.int .i64 l[i].ve) ∧ w.cell? ⟨b, off + i * 6 + 1, none⟩ = some (.int .i64 l[i].ph) ∧ w.cell? ⟨b, off + i * 6 + 2, none⟩ = some (.int .i64 l[i].no) ∧ w.cell? ⟨b, off + i * 6 + 3, none⟩ = some (.int .i64 l[i].se) ∧ w.cell? ⟨b, off + i * 6 + 4, none⟩ = some (.int .i64 l[i].wh) ∧ w.cell? ⟨b, off + i * 6 + 5, none⟩ = some (.int .i64 l[i].bo) := by
  obtain ⟨b, off, cap, h1, h2, h3, h4⟩ := h.q.open hn
  refine ⟨b, off, cap, h1, h2, h3, fun i hi => ?_⟩
  obtain ⟨row, r1, ⟨r2, r4⟩, r3⟩ := h4 i hi
  subst r2
  exact ⟨r3 0 (by decide), r3 1 (by decide), r3 2 (by decide), r3 3 (by decide), r3 4 (by decide), r3 5 (by decide)⟩
set_option maxRecDepth 100000 in
set_option maxHeartbeats 80000000 in
theorem refRules (x : TAd) (t : TbC) (w : World) (ht : TabIs w x t) :
    Calls Tryz.prog 50 #[tabV x t] w (OneW (RulesOk t) w) := by
  have hm := reads_few ht.th
  have hmc := reads_few ht.ac
  have hmd := reads_few ht.dd
  have hmf := reads_few ht.fu
  have hmz := reads_few ht.da
  have hmp := reads_few ht.pa
  have hs1 := len_sub hmc
  have hs2 := len_sub hmp
  have HB0 := Lib.hid (bl_tab w x t)
  have HK0 : Hid (BK (tabW w x t) w.heap.size (tabC x t) 28) := Lib.hid (BK.new w (tabC x t) 28)
  obtain ⟨W0, hW0⟩ : ∃ W0, tabW w x t = W0 := ⟨_, rfl⟩
  rw [hW0] at HB0 HK0
  have HT := Lib.hid ht
  have HTH := Lib.hid (fun n w => refThing x t n w hm)
  have HRT := Lib.hid (fun n nb w' (hb : Below w.heap.size w w') => refRoutine x t n nb w' (HT.out.below hb))
  unfold tabW tabC at hW0
  unfold tabV tabC at *
  unfold maxLen at hmc hmd hmf hmz hmp
  clear ht hm
  have kt0 := HK0.out.cell 0; have kt1 := HK0.out.cell 1; have kt2 := HK0.out.cell 2; have kt3 := HK0.out.cell 3; have kt4 := HK0.out.cell 4; have kt5 := HK0.out.cell 5; have kt6 := HK0.out.cell 6; have kt7 := HK0.out.cell 7; have kt8 := HK0.out.cell 8; have kt9 := HK0.out.cell 9; have kt10 := HK0.out.cell 10; have kt11 := HK0.out.cell 11; have kt12 := HK0.out.cell 12; have kt13 := HK0.out.cell 13; have kt14 := HK0.out.cell 14; simp only [tabC, List.getElem?_cons_zero, List.getElem?_cons_succ] at kt0 kt1 kt2 kt3 kt4 kt5 kt6 kt7 kt8 kt9 kt10 kt11 kt12 kt13 kt14
  go_enter Tryz.func50, Tryz.ntmps50
  go_wp2_with fail
  all_goals first
    | (go_ret; exact OneW.f HB0.out)
    | skip
  clear hW0
  have HLn : Hid (t.ac.length ≤ 64 ∧ t.dd.length ≤ 512 ∧ t.fu.length ≤ 64 ∧ t.da.length ≤ 16) := Lib.hid ⟨by omega, by omega, by omega, by omega⟩
  go_loopw [3] (fun i wr => ∃ (p : Nat), i = .int .i64 p ∧ p ≤ t.ac.length ∧ Hid (Below w.heap.size w wr) ∧ Hid (BK wr w.heap.size (tabC x t) 28) ∧ Hid (∀ a ∈ t.ac.take p, (1 ≤ a.ln.length ∧ a.ln.length ≤ 8) ∧ ∀ l ∈ a.ln, LineOk l)) (fun i _ => t.ac.length - (intOf i).toNat)
  case atStart => exact ⟨0, rfl, Nat.zero_le _, HB0, HK0, Lib.hid (fun a h => by simp at h)⟩
  case round =>
    clear HB0 HK0
    clear kt0 kt1 kt2 kt3 kt4 kt5 kt6 kt7 kt8 kt9 kt10 kt11 kt12 kt13 kt14
    obtain ⟨p, rfl, hpl, hB, hK, HI⟩ := hrel
    have kt0 := hK.out.cell 0; have kt1 := hK.out.cell 1; have kt2 := hK.out.cell 2; have kt3 := hK.out.cell 3; have kt4 := hK.out.cell 4; have kt5 := hK.out.cell 5; have kt6 := hK.out.cell 6; have kt7 := hK.out.cell 7; have kt8 := hK.out.cell 8; have kt9 := hK.out.cell 9; have kt10 := hK.out.cell 10; have kt11 := hK.out.cell 11; have kt12 := hK.out.cell 12; have kt13 := hK.out.cell 13; have kt14 := hK.out.cell 14; simp only [tabC, List.getElem?_cons_zero, List.getElem?_cons_succ] at kt0 kt1 kt2 kt3 kt4 kt5 kt6 kt7 kt8 kt9 kt10 kt11 kt12 kt13 kt14
    by_cases hlt : p < t.ac.length
    · obtain ⟨b, off, cap, hv, hcap, hblt, hcell⟩ := ac_open HT.out.ac (by omega)
      have hac : x.a9 = some ⟨b, off, none⟩ := by simp at hv; exact hv.1
      obtain ⟨u, hu, f0, f1⟩ := hcell p hlt
      have e1 := (hB.out.cell (p := ⟨b, off + p * 2 + 1, none⟩) hblt).trans f1
      have HNx : Hid (((1 ≤ t.ac[p].ln.length ∧ t.ac[p].ln.length ≤ 8) ∧ ∀ l ∈ t.ac[p].ln, LineOk l) → ∀ a ∈ t.ac.take (p + 1), (1 ≤ a.ln.length ∧ a.ln.length ≤ 8) ∧ ∀ l ∈ a.ln, LineOk l) := Lib.hid (take_all hlt HI.out)
      obtain ⟨s1, c1, hs1', hc1, hm1⟩ := hu.q.len
      subst hs1'
      unfold maxLen at hm1
      have HU := Lib.hid hu
      generalize t.ac[p] = y at e1 f1 f0 HNx HU hm1 hc1
      have G1 := Lib.hid (fun w => (refFrom (y.ln.length : Int) 1 8 w).mono fun e w' h => IffB.val h)
      have b1 : pB (1 ≤ (y.ln.length : Int) ∧ (y.ln.length : Int) ≤ 8) = true → 1 ≤ (y.ln.length : Int) ∧ (y.ln.length : Int) ≤ 8 := pB_iff.1
      generalize pB (1 ≤ (y.ln.length : Int) ∧ (y.ln.length : Int) ≤ 8) = d1 at G1 b1
      have HC1 := Lib.hid b1
      have hk0 : (0 : Int) ≤ (p : Int) := by omega
      have hk1 : (p : Int) < (t.ac.length : Int) := by omega
      rw [hac] at kt9
      have HAC := Lib.hid hac
      clear hcell hv hac hu f0 HI b1 hcap
      cases d1 with
      | false =>
        go_wp2_with (go_at_call 56; refine (G1.out _).mono ?_; rintro e w2 ⟨rfl, rfl⟩)
        go_ret
        exact OneW.f hB.out
      | true =>
        go_wp2_with (go_at_call 56; refine (G1.out _).mono ?_; rintro e w2 ⟨rfl, rfl⟩)
        obtain ⟨wo, rfl⟩ : ∃ wo : World, wo = wr := ⟨_, rfl⟩
        have F1 := Lib.hid f1
        clear e1 f1
        clear kt0 kt1 kt2 kt3 kt4 kt5 kt6 kt7 kt8 kt9 kt10 kt11 kt12 kt13 kt14
        go_loopw [4] (fun i wr => ∃ (q : Nat), i = .int .i64 q ∧ q ≤ y.ln.length ∧ Hid (Below w.heap.size w wr) ∧ Hid (BK wr w.heap.size (tabC x t) 28) ∧ Hid (∀ l ∈ y.ln.take q, LineOk l)) (fun i _ => y.ln.length - (intOf i).toNat)
        case atStart => exact ⟨0, rfl, Nat.zero_le _, hB, hK, Lib.hid (fun a h => by simp at h)⟩
        case round =>
          clear hB hK
          obtain ⟨q, rfl, hql, hB, hK, HI⟩ := hrel
          have kt0 := hK.out.cell 0; have kt1 := hK.out.cell 1; have kt2 := hK.out.cell 2; have kt3 := hK.out.cell 3; have kt4 := hK.out.cell 4; have kt5 := hK.out.cell 5; have kt6 := hK.out.cell 6; have kt7 := hK.out.cell 7; have kt8 := hK.out.cell 8; have kt9 := hK.out.cell 9; have kt10 := hK.out.cell 10; have kt11 := hK.out.cell 11; have kt12 := hK.out.cell 12; have kt13 := hK.out.cell 13; have kt14 := hK.out.cell 14; simp only [tabC, List.getElem?_cons_zero, List.getElem?_cons_succ] at kt0 kt1 kt2 kt3 kt4 kt5 kt6 kt7 kt8 kt9 kt10 kt11 kt12 kt13 kt14
          rw [HAC.out] at kt9
          have e1 := (hB.out.cell (p := ⟨b, off + p * 2 + 1, none⟩) hblt).trans F1.out
          by_cases hltq : q < y.ln.length
          · obtain ⟨b2, off2, cap2, hv2, hcap2, hblt2, hcell2⟩ := ln_open HU.out (by omega)
            have hac2 : s1 = some ⟨b2, off2, none⟩ := by simp at hv2; exact hv2.1
            obtain ⟨u2, hu2, g0⟩ := hcell2 q hltq
            have e2 := (hB.out.cell (p := ⟨b2, off2 + q, none⟩) hblt2).trans g0
            have HL := Lib.hid (refLine u2 y.ln[q] wr (hu2.below hB.out))
            have HN2 : Hid (LineOk y.ln[q] → ∀ l ∈ y.ln.take (q + 1), LineOk l) := Lib.hid (take_all hltq HI.out)
            obtain ⟨s2, c2, hs2', hc2, hm2⟩ := hu2.q.len
            subst hs2'
            generalize y.ln[q] = z at HL HN2 e2 g0 hc2 hm2
            have hk2 : (0 : Int) ≤ (q : Int) := by omega
            have hk3 : (q : Int) < (y.ln.length : Int) := by omega
            rw [hac2] at e1
            clear hcell2 hv2 hac2 hu2 g0 hcap2 HI
            go_wp2_with (go_at_call 87; refine HL.out.mono ?_; rintro e w2 ⟨b9, rfl, hb9, hbw⟩; have HB9 := Lib.hid (bl_then hB.out hbw); have HK9 := Lib.hid (hK.out.below hbw); have HB8 := Lib.hid hb9; clear hbw hb9)
            · go_ret
              exact OneW.f HB9.out
            · go_roundw
              case rel => exact ⟨q + 1, by go_num, by omega, HB9, HK9, Lib.hid (HN2.out (HB8.out (by first | assumption | (simpa using ‹(!b9) = false›))))⟩
              case measure => simp [intOf]; omega
          · have HA := Lib.hid (take_full hltq HI.out)
            have h18 := HC1.out (by trivial)
            go_wp2
            go_roundw
            case rel => exact ⟨p + 1, by go_num, by omega, hB, hK, Lib.hid (HNx.out ⟨by omega, HA.out⟩)⟩
            case measure => simp [intOf]; omega
    · have HAll := Lib.hid (take_full hlt HI.out)
      go_wp2_with fail
      obtain ⟨wo, rfl⟩ : ∃ wo : World, wo = wr := ⟨_, rfl⟩
      clear kt0 kt1 kt2 kt3 kt4 kt5 kt6 kt7 kt8 kt9 kt10 kt11 kt12 kt13 kt14
      clear HI
      go_loopw [5] (fun i wr => ∃ (p : Nat), i = .int .i64 p ∧ p ≤ t.dd.length ∧ Hid (Below w.heap.size w wr) ∧ Hid (BK wr w.heap.size (tabC x t) 28)) (fun i _ => t.dd.length - (intOf i).toNat)
      case atStart => exact ⟨0, rfl, Nat.zero_le _, hB, hK⟩
      case round =>
        clear hB hK hlt hpl
        obtain ⟨p, rfl, hpl, hB, hK⟩ := hrel
        have kt0 := hK.out.cell 0; have kt1 := hK.out.cell 1; have kt2 := hK.out.cell 2; have kt3 := hK.out.cell 3; have kt4 := hK.out.cell 4; have kt5 := hK.out.cell 5; have kt6 := hK.out.cell 6; have kt7 := hK.out.cell 7; have kt8 := hK.out.cell 8; have kt9 := hK.out.cell 9; have kt10 := hK.out.cell 10; have kt11 := hK.out.cell 11; have kt12 := hK.out.cell 12; have kt13 := hK.out.cell 13; have kt14 := hK.out.cell 14; simp only [tabC, List.getElem?_cons_zero, List.getElem?_cons_succ] at kt0 kt1 kt2 kt3 kt4 kt5 kt6 kt7 kt8 kt9 kt10 kt11 kt12 kt13 kt14
        by_cases hlt : p < t.dd.length
        · obtain ⟨b, off, cap, hv, hcap, hblt, hcell⟩ := dd_open (HT.out.dd.below hB.out) (by omega)
          have hac : x.a10 = some ⟨b, off, none⟩ := by simp at hv; exact hv.1
          obtain ⟨e0, e1, e2, e3, e4, e5⟩ := hcell p hlt
          generalize t.dd[p] = y at e0 e1 e2 e3 e4 e5
          have hk0 : (0 : Int) ≤ (p : Int) := by omega
          have hk1 : (p : Int) < (t.dd.length : Int) := by omega
          rw [hac] at kt10
          obtain ⟨W7, hW7⟩ : ∃ W7, wr.alloc (.cells #[.int .i64 y.ve, .int .i64 y.ph, .int .i64 y.no, .int .i64 y.se, .int .i64 y.wh, .int .i64 y.bo] 102) = W7 := ⟨_, rfl⟩
          have HL7 : Hid (Below wr.heap.size wr W7) := Lib.hid (by rw [← hW7]; exact bl_a (Below.refl _ _) _)
          have HD9 : Hid (BK W7 wr.heap.size [.int .i64 y.ve, .int .i64 y.ph, .int .i64 y.no, .int .i64 y.se, .int .i64 y.wh, .int .i64 y.bo] 102) := Lib.hid (by rw [← hW7]; exact BK.new wr [.int .i64 y.ve, .int .i64 y.ph, .int .i64 y.no, .int .i64 y.se, .int .i64 y.wh, .int .i64 y.bo] 102)
          have HK9 := Lib.hid (hK.out.below HL7.out)
          have HB9 : Hid (Below w.heap.size w W7) := Lib.hid (bl_then hB.out HL7.out)
          have G1 := Lib.hid (fun w => (refFrom y.ve 0 ((t.ac.length : Int) - 1) w).mono fun e w' h => IffB.val h)
          have G2 := Lib.hid (fun w => (refFrom y.ph 1 3 w).mono fun e w' h => IffB.val h)
          have G3 := Lib.hid (fun w => (HTH.out y.no w).mono fun e w' h => IffW.val h)
          have G4 := Lib.hid (fun w => (HTH.out y.se w).mono fun e w' h => IffW.val h)
          have G5 := Lib.hid (fun w' (hb : Below w.heap.size w w') => (HRT.out y.wh true w' hb).mono fun e w' h => IffW.val h)
          have G6 := Lib.hid (fun w' (hb : Below w.heap.size w w') => (HRT.out y.bo false w' hb).mono fun e w' h => IffW.val h)
          generalize pB (0 ≤ y.ve ∧ y.ve ≤ (t.ac.length : Int) - 1) = c1 at G1
          generalize pB (1 ≤ y.ph ∧ y.ph ≤ 3) = c2 at G2
          generalize pB (ThOk t y.no) = c3 at G3
          generalize pB (ThOk t y.se) = c4 at G4
          generalize pB (RtOk t y.wh true) = c5 at G5
          generalize pB (RtOk t y.bo false) = c6 at G6
          generalize y.ve = ve at e0 HD9 G1 hW7
          generalize y.ph = ph at e1 HD9 G2 hW7
          generalize y.no = no at e2 HD9 G3 hW7
          generalize y.se = se at e3 HD9 G4 hW7
          generalize y.wh = wh at e4 HD9 G5 hW7
          generalize y.bo = bo at e5 HD9 G6 hW7
          clear hcell hv hcap hac
          have y0 := HD9.out.cell 0; have y1 := HD9.out.cell 1; have y2 := HD9.out.cell 2; have y3 := HD9.out.cell 3; have y4 := HD9.out.cell 4; have y5 := HD9.out.cell 5; simp only [List.getElem?_cons_zero, List.getElem?_cons_succ] at y0 y1 y2 y3 y4 y5
          have kt0 := HK9.out.cell 0; have kt1 := HK9.out.cell 1; have kt2 := HK9.out.cell 2; have kt3 := HK9.out.cell 3; have kt4 := HK9.out.cell 4; have kt5 := HK9.out.cell 5; have kt6 := HK9.out.cell 6; have kt7 := HK9.out.cell 7; have kt8 := HK9.out.cell 8; have kt9 := HK9.out.cell 9; have kt10 := HK9.out.cell 10; have kt11 := HK9.out.cell 11; have kt12 := HK9.out.cell 12; have kt13 := HK9.out.cell 13; have kt14 := HK9.out.cell 14; simp only [tabC, List.getElem?_cons_zero, List.getElem?_cons_succ] at kt0 kt1 kt2 kt3 kt4 kt5 kt6 kt7 kt8 kt9 kt10 kt11 kt12 kt13 kt14
          by_cases hno : no = -1
          · subst hno
            by_cases hse : se = -1
            · subst hse
              as_aux_lemma =>
                go_wp2_with (first
  | (go_at_call 56; (with_reducible refine (G1.out _).mono ?_); rintro e w2 ⟨rfl, rfl⟩)
  | (go_at_call 56; (with_reducible refine (G2.out _).mono ?_); rintro e w2 ⟨rfl, rfl⟩)
  | (go_at_call 83; (with_reducible refine (G3.out _).mono ?_); rintro e w2 ⟨rfl, hbw⟩; clear kt0 kt1 kt2 kt3 kt4 kt5 kt6 kt7 kt8 kt9 kt10 kt11 kt12 kt13 kt14; clear y0 y1 y2 y3 y4 y5; have HD9 := Lib.hid (HD9.out.below hbw); have HK9 := Lib.hid (HK9.out.below hbw); have HB9 := Lib.hid (bl_then HB9.out hbw); clear hbw; have kt0 := HK9.out.cell 0; have kt1 := HK9.out.cell 1; have kt2 := HK9.out.cell 2; have kt3 := HK9.out.cell 3; have kt4 := HK9.out.cell 4; have kt5 := HK9.out.cell 5; have kt6 := HK9.out.cell 6; have kt7 := HK9.out.cell 7; have kt8 := HK9.out.cell 8; have kt9 := HK9.out.cell 9; have kt10 := HK9.out.cell 10; have kt11 := HK9.out.cell 11; have kt12 := HK9.out.cell 12; have kt13 := HK9.out.cell 13; have kt14 := HK9.out.cell 14; simp only [tabC, List.getElem?_cons_zero, List.getElem?_cons_succ] at kt0 kt1 kt2 kt3 kt4 kt5 kt6 kt7 kt8 kt9 kt10 kt11 kt12 kt13 kt14; have y0 := HD9.out.cell 0; have y1 := HD9.out.cell 1; have y2 := HD9.out.cell 2; have y3 := HD9.out.cell 3; have y4 := HD9.out.cell 4; have y5 := HD9.out.cell 5; simp only [List.getElem?_cons_zero, List.getElem?_cons_succ] at y0 y1 y2 y3 y4 y5)
  | (go_at_call 83; (with_reducible refine (G4.out _).mono ?_); rintro e w2 ⟨rfl, hbw⟩; clear kt0 kt1 kt2 kt3 kt4 kt5 kt6 kt7 kt8 kt9 kt10 kt11 kt12 kt13 kt14; clear y0 y1 y2 y3 y4 y5; have HD9 := Lib.hid (HD9.out.below hbw); have HK9 := Lib.hid (HK9.out.below hbw); have HB9 := Lib.hid (bl_then HB9.out hbw); clear hbw; have kt0 := HK9.out.cell 0; have kt1 := HK9.out.cell 1; have kt2 := HK9.out.cell 2; have kt3 := HK9.out.cell 3; have kt4 := HK9.out.cell 4; have kt5 := HK9.out.cell 5; have kt6 := HK9.out.cell 6; have kt7 := HK9.out.cell 7; have kt8 := HK9.out.cell 8; have kt9 := HK9.out.cell 9; have kt10 := HK9.out.cell 10; have kt11 := HK9.out.cell 11; have kt12 := HK9.out.cell 12; have kt13 := HK9.out.cell 13; have kt14 := HK9.out.cell 14; simp only [tabC, List.getElem?_cons_zero, List.getElem?_cons_succ] at kt0 kt1 kt2 kt3 kt4 kt5 kt6 kt7 kt8 kt9 kt10 kt11 kt12 kt13 kt14; have y0 := HD9.out.cell 0; have y1 := HD9.out.cell 1; have y2 := HD9.out.cell 2; have y3 := HD9.out.cell 3; have y4 := HD9.out.cell 4; have y5 := HD9.out.cell 5; simp only [List.getElem?_cons_zero, List.getElem?_cons_succ] at y0 y1 y2 y3 y4 y5)
  | (go_at_call 88; (with_reducible refine (G5.out _ HB9.out).mono ?_); rintro e w2 ⟨rfl, hbw⟩; clear kt0 kt1 kt2 kt3 kt4 kt5 kt6 kt7 kt8 kt9 kt10 kt11 kt12 kt13 kt14; clear y0 y1 y2 y3 y4 y5; have HD9 := Lib.hid (HD9.out.below hbw); have HK9 := Lib.hid (HK9.out.below hbw); have HB9 := Lib.hid (bl_then HB9.out hbw); clear hbw; have kt0 := HK9.out.cell 0; have kt1 := HK9.out.cell 1; have kt2 := HK9.out.cell 2; have kt3 := HK9.out.cell 3; have kt4 := HK9.out.cell 4; have kt5 := HK9.out.cell 5; have kt6 := HK9.out.cell 6; have kt7 := HK9.out.cell 7; have kt8 := HK9.out.cell 8; have kt9 := HK9.out.cell 9; have kt10 := HK9.out.cell 10; have kt11 := HK9.out.cell 11; have kt12 := HK9.out.cell 12; have kt13 := HK9.out.cell 13; have kt14 := HK9.out.cell 14; simp only [tabC, List.getElem?_cons_zero, List.getElem?_cons_succ] at kt0 kt1 kt2 kt3 kt4 kt5 kt6 kt7 kt8 kt9 kt10 kt11 kt12 kt13 kt14; have y0 := HD9.out.cell 0; have y1 := HD9.out.cell 1; have y2 := HD9.out.cell 2; have y3 := HD9.out.cell 3; have y4 := HD9.out.cell 4; have y5 := HD9.out.cell 5; simp only [List.getElem?_cons_zero, List.getElem?_cons_succ] at y0 y1 y2 y3 y4 y5)
  | (go_at_call 88; (with_reducible refine (G6.out _ HB9.out).mono ?_); rintro e w2 ⟨rfl, hbw⟩; clear kt0 kt1 kt2 kt3 kt4 kt5 kt6 kt7 kt8 kt9 kt10 kt11 kt12 kt13 kt14; clear y0 y1 y2 y3 y4 y5; have HD9 := Lib.hid (HD9.out.below hbw); have HK9 := Lib.hid (HK9.out.below hbw); have HB9 := Lib.hid (bl_then HB9.out hbw); clear hbw; have kt0 := HK9.out.cell 0; have kt1 := HK9.out.cell 1; have kt2 := HK9.out.cell 2; have kt3 := HK9.out.cell 3; have kt4 := HK9.out.cell 4; have kt5 := HK9.out.cell 5; have kt6 := HK9.out.cell 6; have kt7 := HK9.out.cell 7; have kt8 := HK9.out.cell 8; have kt9 := HK9.out.cell 9; have kt10 := HK9.out.cell 10; have kt11 := HK9.out.cell 11; have kt12 := HK9.out.cell 12; have kt13 := HK9.out.cell 13; have kt14 := HK9.out.cell 14; simp only [tabC, List.getElem?_cons_zero, List.getElem?_cons_succ] at kt0 kt1 kt2 kt3 kt4 kt5 kt6 kt7 kt8 kt9 kt10 kt11 kt12 kt13 kt14; have y0 := HD9.out.cell 0; have y1 := HD9.out.cell 1; have y2 := HD9.out.cell 2; have y3 := HD9.out.cell 3; have y4 := HD9.out.cell 4; have y5 := HD9.out.cell 5; simp only [List.getElem?_cons_zero, List.getElem?_cons_succ] at y0 y1 y2 y3 y4 y5))
                all_goals first
                  | (go_ret; exact OneW.f HB9.out)
                  | (go_roundw
                     case rel => exact ⟨p + 1, by go_num, by omega, HB9, HK9⟩
                     case measure => simp [intOf]; omega)
            · have hsb : (se != -1) = true := by simpa using hse
              clear hse
              as_aux_lemma =>
                go_wp2_with (first
  | (go_at_call 56; (with_reducible refine (G1.out _).mono ?_); rintro e w2 ⟨rfl, rfl⟩)
  | (go_at_call 56; (with_reducible refine (G2.out _).mono ?_); rintro e w2 ⟨rfl, rfl⟩)
  | (go_at_call 83; (with_reducible refine (G3.out _).mono ?_); rintro e w2 ⟨rfl, hbw⟩; clear kt0 kt1 kt2 kt3 kt4 kt5 kt6 kt7 kt8 kt9 kt10 kt11 kt12 kt13 kt14; clear y0 y1 y2 y3 y4 y5; have HD9 := Lib.hid (HD9.out.below hbw); have HK9 := Lib.hid (HK9.out.below hbw); have HB9 := Lib.hid (bl_then HB9.out hbw); clear hbw; have kt0 := HK9.out.cell 0; have kt1 := HK9.out.cell 1; have kt2 := HK9.out.cell 2; have kt3 := HK9.out.cell 3; have kt4 := HK9.out.cell 4; have kt5 := HK9.out.cell 5; have kt6 := HK9.out.cell 6; have kt7 := HK9.out.cell 7; have kt8 := HK9.out.cell 8; have kt9 := HK9.out.cell 9; have kt10 := HK9.out.cell 10; have kt11 := HK9.out.cell 11; have kt12 := HK9.out.cell 12; have kt13 := HK9.out.cell 13; have kt14 := HK9.out.cell 14; simp only [tabC, List.getElem?_cons_zero, List.getElem?_cons_succ] at kt0 kt1 kt2 kt3 kt4 kt5 kt6 kt7 kt8 kt9 kt10 kt11 kt12 kt13 kt14; have y0 := HD9.out.cell 0; have y1 := HD9.out.cell 1; have y2 := HD9.out.cell 2; have y3 := HD9.out.cell 3; have y4 := HD9.out.cell 4; have y5 := HD9.out.cell 5; simp only [List.getElem?_cons_zero, List.getElem?_cons_succ] at y0 y1 y2 y3 y4 y5)
  | (go_at_call 83; (with_reducible refine (G4.out _).mono ?_); rintro e w2 ⟨rfl, hbw⟩; clear kt0 kt1 kt2 kt3 kt4 kt5 kt6 kt7 kt8 kt9 kt10 kt11 kt12 kt13 kt14; clear y0 y1 y2 y3 y4 y5; have HD9 := Lib.hid (HD9.out.below hbw); have HK9 := Lib.hid (HK9.out.below hbw); have HB9 := Lib.hid (bl_then HB9.out hbw); clear hbw; have kt0 := HK9.out.cell 0; have kt1 := HK9.out.cell 1; have kt2 := HK9.out.cell 2; have kt3 := HK9.out.cell 3; have kt4 := HK9.out.cell 4; have kt5 := HK9.out.cell 5; have kt6 := HK9.out.cell 6; have kt7 := HK9.out.cell 7; have kt8 := HK9.out.cell 8; have kt9 := HK9.out.cell 9; have kt10 := HK9.out.cell 10; have kt11 := HK9.out.cell 11; have kt12 := HK9.out.cell 12; have kt13 := HK9.out.cell 13; have kt14 := HK9.out.cell 14; simp only [tabC, List.getElem?_cons_zero, List.getElem?_cons_succ] at kt0 kt1 kt2 kt3 kt4 kt5 kt6 kt7 kt8 kt9 kt10 kt11 kt12 kt13 kt14; have y0 := HD9.out.cell 0; have y1 := HD9.out.cell 1; have y2 := HD9.out.cell 2; have y3 := HD9.out.cell 3; have y4 := HD9.out.cell 4; have y5 := HD9.out.cell 5; simp only [List.getElem?_cons_zero, List.getElem?_cons_succ] at y0 y1 y2 y3 y4 y5)
  | (go_at_call 88; (with_reducible refine (G5.out _ HB9.out).mono ?_); rintro e w2 ⟨rfl, hbw⟩; clear kt0 kt1 kt2 kt3 kt4 kt5 kt6 kt7 kt8 kt9 kt10 kt11 kt12 kt13 kt14; clear y0 y1 y2 y3 y4 y5; have HD9 := Lib.hid (HD9.out.below hbw); have HK9 := Lib.hid (HK9.out.below hbw); have HB9 := Lib.hid (bl_then HB9.out hbw); clear hbw; have kt0 := HK9.out.cell 0; have kt1 := HK9.out.cell 1; have kt2 := HK9.out.cell 2; have kt3 := HK9.out.cell 3; have kt4 := HK9.out.cell 4; have kt5 := HK9.out.cell 5; have kt6 := HK9.out.cell 6; have kt7 := HK9.out.cell 7; have kt8 := HK9.out.cell 8; have kt9 := HK9.out.cell 9; have kt10 := HK9.out.cell 10; have kt11 := HK9.out.cell 11; have kt12 := HK9.out.cell 12; have kt13 := HK9.out.cell 13; have kt14 := HK9.out.cell 14; simp only [tabC, List.getElem?_cons_zero, List.getElem?_cons_succ] at kt0 kt1 kt2 kt3 kt4 kt5 kt6 kt7 kt8 kt9 kt10 kt11 kt12 kt13 kt14; have y0 := HD9.out.cell 0; have y1 := HD9.out.cell 1; have y2 := HD9.out.cell 2; have y3 := HD9.out.cell 3; have y4 := HD9.out.cell 4; have y5 := HD9.out.cell 5; simp only [List.getElem?_cons_zero, List.getElem?_cons_succ] at y0 y1 y2 y3 y4 y5)
  | (go_at_call 88; (with_reducible refine (G6.out _ HB9.out).mono ?_); rintro e w2 ⟨rfl, hbw⟩; clear kt0 kt1 kt2 kt3 kt4 kt5 kt6 kt7 kt8 kt9 kt10 kt11 kt12 kt13 kt14; clear y0 y1 y2 y3 y4 y5; have HD9 := Lib.hid (HD9.out.below hbw); have HK9 := Lib.hid (HK9.out.below hbw); have HB9 := Lib.hid (bl_then HB9.out hbw); clear hbw; have kt0 := HK9.out.cell 0; have kt1 := HK9.out.cell 1; have kt2 := HK9.out.cell 2; have kt3 := HK9.out.cell 3; have kt4 := HK9.out.cell 4; have kt5 := HK9.out.cell 5; have kt6 := HK9.out.cell 6; have kt7 := HK9.out.cell 7; have kt8 := HK9.out.cell 8; have kt9 := HK9.out.cell 9; have kt10 := HK9.out.cell 10; have kt11 := HK9.out.cell 11; have kt12 := HK9.out.cell 12; have kt13 := HK9.out.cell 13; have kt14 := HK9.out.cell 14; simp only [tabC, List.getElem?_cons_zero, List.getElem?_cons_succ] at kt0 kt1 kt2 kt3 kt4 kt5 kt6 kt7 kt8 kt9 kt10 kt11 kt12 kt13 kt14; have y0 := HD9.out.cell 0; have y1 := HD9.out.cell 1; have y2 := HD9.out.cell 2; have y3 := HD9.out.cell 3; have y4 := HD9.out.cell 4; have y5 := HD9.out.cell 5; simp only [List.getElem?_cons_zero, List.getElem?_cons_succ] at y0 y1 y2 y3 y4 y5))
                all_goals first
                  | (go_ret; exact OneW.f HB9.out)
                  | (go_roundw
                     case rel => exact ⟨p + 1, by go_num, by omega, HB9, HK9⟩
                     case measure => simp [intOf]; omega)
          · have hnb : (no != -1) = true := by simpa using hno
            clear hno
            by_cases hse : se = -1
            · subst hse
              as_aux_lemma =>
                go_wp2_with (first
  | (go_at_call 56; (with_reducible refine (G1.out _).mono ?_); rintro e w2 ⟨rfl, rfl⟩)
  | (go_at_call 56; (with_reducible refine (G2.out _).mono ?_); rintro e w2 ⟨rfl, rfl⟩)
  | (go_at_call 83; (with_reducible refine (G3.out _).mono ?_); rintro e w2 ⟨rfl, hbw⟩; clear kt0 kt1 kt2 kt3 kt4 kt5 kt6 kt7 kt8 kt9 kt10 kt11 kt12 kt13 kt14; clear y0 y1 y2 y3 y4 y5; have HD9 := Lib.hid (HD9.out.below hbw); have HK9 := Lib.hid (HK9.out.below hbw); have HB9 := Lib.hid (bl_then HB9.out hbw); clear hbw; have kt0 := HK9.out.cell 0; have kt1 := HK9.out.cell 1; have kt2 := HK9.out.cell 2; have kt3 := HK9.out.cell 3; have kt4 := HK9.out.cell 4; have kt5 := HK9.out.cell 5; have kt6 := HK9.out.cell 6; have kt7 := HK9.out.cell 7; have kt8 := HK9.out.cell 8; have kt9 := HK9.out.cell 9; have kt10 := HK9.out.cell 10; have kt11 := HK9.out.cell 11; have kt12 := HK9.out.cell 12; have kt13 := HK9.out.cell 13; have kt14 := HK9.out.cell 14; simp only [tabC, List.getElem?_cons_zero, List.getElem?_cons_succ] at kt0 kt1 kt2 kt3 kt4 kt5 kt6 kt7 kt8 kt9 kt10 kt11 kt12 kt13 kt14; have y0 := HD9.out.cell 0; have y1 := HD9.out.cell 1; have y2 := HD9.out.cell 2; have y3 := HD9.out.cell 3; have y4 := HD9.out.cell 4; have y5 := HD9.out.cell 5; simp only [List.getElem?_cons_zero, List.getElem?_cons_succ] at y0 y1 y2 y3 y4 y5)
  | (go_at_call 83; (with_reducible refine (G4.out _).mono ?_); rintro e w2 ⟨rfl, hbw⟩; clear kt0 kt1 kt2 kt3 kt4 kt5 kt6 kt7 kt8 kt9 kt10 kt11 kt12 kt13 kt14; clear y0 y1 y2 y3 y4 y5; have HD9 := Lib.hid (HD9.out.below hbw); have HK9 := Lib.hid (HK9.out.below hbw); have HB9 := Lib.hid (bl_then HB9.out hbw); clear hbw; have kt0 := HK9.out.cell 0; have kt1 := HK9.out.cell 1; have kt2 := HK9.out.cell 2; have kt3 := HK9.out.cell 3; have kt4 := HK9.out.cell 4; have kt5 := HK9.out.cell 5; have kt6 := HK9.out.cell 6; have kt7 := HK9.out.cell 7; have kt8 := HK9.out.cell 8; have kt9 := HK9.out.cell 9; have kt10 := HK9.out.cell 10; have kt11 := HK9.out.cell 11; have kt12 := HK9.out.cell 12; have kt13 := HK9.out.cell 13; have kt14 := HK9.out.cell 14; simp only [tabC, List.getElem?_cons_zero, List.getElem?_cons_succ] at kt0 kt1 kt2 kt3 kt4 kt5 kt6 kt7 kt8 kt9 kt10 kt11 kt12 kt13 kt14; have y0 := HD9.out.cell 0; have y1 := HD9.out.cell 1; have y2 := HD9.out.cell 2; have y3 := HD9.out.cell 3; have y4 := HD9.out.cell 4; have y5 := HD9.out.cell 5; simp only [List.getElem?_cons_zero, List.getElem?_cons_succ] at y0 y1 y2 y3 y4 y5)
  | (go_at_call 88; (with_reducible refine (G5.out _ HB9.out).mono ?_); rintro e w2 ⟨rfl, hbw⟩; clear kt0 kt1 kt2 kt3 kt4 kt5 kt6 kt7 kt8 kt9 kt10 kt11 kt12 kt13 kt14; clear y0 y1 y2 y3 y4 y5; have HD9 := Lib.hid (HD9.out.below hbw); have HK9 := Lib.hid (HK9.out.below hbw); have HB9 := Lib.hid (bl_then HB9.out hbw); clear hbw; have kt0 := HK9.out.cell 0; have kt1 := HK9.out.cell 1; have kt2 := HK9.out.cell 2; have kt3 := HK9.out.cell 3; have kt4 := HK9.out.cell 4; have kt5 := HK9.out.cell 5; have kt6 := HK9.out.cell 6; have kt7 := HK9.out.cell 7; have kt8 := HK9.out.cell 8; have kt9 := HK9.out.cell 9; have kt10 := HK9.out.cell 10; have kt11 := HK9.out.cell 11; have kt12 := HK9.out.cell 12; have kt13 := HK9.out.cell 13; have kt14 := HK9.out.cell 14; simp only [tabC, List.getElem?_cons_zero, List.getElem?_cons_succ] at kt0 kt1 kt2 kt3 kt4 kt5 kt6 kt7 kt8 kt9 kt10 kt11 kt12 kt13 kt14; have y0 := HD9.out.cell 0; have y1 := HD9.out.cell 1; have y2 := HD9.out.cell 2; have y3 := HD9.out.cell 3; have y4 := HD9.out.cell 4; have y5 := HD9.out.cell 5; simp only [List.getElem?_cons_zero, List.getElem?_cons_succ] at y0 y1 y2 y3 y4 y5)
  | (go_at_call 88; (with_reducible refine (G6.out _ HB9.out).mono ?_); rintro e w2 ⟨rfl, hbw⟩; clear kt0 kt1 kt2 kt3 kt4 kt5 kt6 kt7 kt8 kt9 kt10 kt11 kt12 kt13 kt14; clear y0 y1 y2 y3 y4 y5; have HD9 := Lib.hid (HD9.out.below hbw); have HK9 := Lib.hid (HK9.out.below hbw); have HB9 := Lib.hid (bl_then HB9.out hbw); clear hbw; have kt0 := HK9.out.cell 0; have kt1 := HK9.out.cell 1; have kt2 := HK9.out.cell 2; have kt3 := HK9.out.cell 3; have kt4 := HK9.out.cell 4; have kt5 := HK9.out.cell 5; have kt6 := HK9.out.cell 6; have kt7 := HK9.out.cell 7; have kt8 := HK9.out.cell 8; have kt9 := HK9.out.cell 9; have kt10 := HK9.out.cell 10; have kt11 := HK9.out.cell 11; have kt12 := HK9.out.cell 12; have kt13 := HK9.out.cell 13; have kt14 := HK9.out.cell 14; simp only [tabC, List.getElem?_cons_zero, List.getElem?_cons_succ] at kt0 kt1 kt2 kt3 kt4 kt5 kt6 kt7 kt8 kt9 kt10 kt11 kt12 kt13 kt14; have y0 := HD9.out.cell 0; have y1 := HD9.out.cell 1; have y2 := HD9.out.cell 2; have y3 := HD9.out.cell 3; have y4 := HD9.out.cell 4; have y5 := HD9.out.cell 5; simp only [List.getElem?_cons_zero, List.getElem?_cons_succ] at y0 y1 y2 y3 y4 y5))
                all_goals first
                  | (go_ret; exact OneW.f HB9.out)
                  | (go_roundw
                     case rel => exact ⟨p + 1, by go_num, by omega, HB9, HK9⟩
                     case measure => simp [intOf]; omega)
            · have hsb : (se != -1) = true := by simpa using hse
              clear hse
              as_aux_lemma =>
                go_wp2_with (first
  | (go_at_call 56; (with_reducible refine (G1.out _).mono ?_); rintro e w2 ⟨rfl, rfl⟩)
  | (go_at_call 56; (with_reducible refine (G2.out _).mono ?_); rintro e w2 ⟨rfl, rfl⟩)
  | (go_at_call 83; (with_reducible refine (G3.out _).mono ?_); rintro e w2 ⟨rfl, hbw⟩; clear kt0 kt1 kt2 kt3 kt4 kt5 kt6 kt7 kt8 kt9 kt10 kt11 kt12 kt13 kt14; clear y0 y1 y2 y3 y4 y5; have HD9 := Lib.hid (HD9.out.below hbw); have HK9 := Lib.hid (HK9.out.below hbw); have HB9 := Lib.hid (bl_then HB9.out hbw); clear hbw; have kt0 := HK9.out.cell 0; have kt1 := HK9.out.cell 1; have kt2 := HK9.out.cell 2; have kt3 := HK9.out.cell 3; have kt4 := HK9.out.cell 4; have kt5 := HK9.out.cell 5; have kt6 := HK9.out.cell 6; have kt7 := HK9.out.cell 7; have kt8 := HK9.out.cell 8; have kt9 := HK9.out.cell 9; have kt10 := HK9.out.cell 10; have kt11 := HK9.out.cell 11; have kt12 := HK9.out.cell 12; have kt13 := HK9.out.cell 13; have kt14 := HK9.out.cell 14; simp only [tabC, List.getElem?_cons_zero, List.getElem?_cons_succ] at kt0 kt1 kt2 kt3 kt4 kt5 kt6 kt7 kt8 kt9 kt10 kt11 kt12 kt13 kt14; have y0 := HD9.out.cell 0; have y1 := HD9.out.cell 1; have y2 := HD9.out.cell 2; have y3 := HD9.out.cell 3; have y4 := HD9.out.cell 4; have y5 := HD9.out.cell 5; simp only [List.getElem?_cons_zero, List.getElem?_cons_succ] at y0 y1 y2 y3 y4 y5)
  | (go_at_call 83; (with_reducible refine (G4.out _).mono ?_); rintro e w2 ⟨rfl, hbw⟩; clear kt0 kt1 kt2 kt3 kt4 kt5 kt6 kt7 kt8 kt9 kt10 kt11 kt12 kt13 kt14; clear y0 y1 y2 y3 y4 y5; have HD9 := Lib.hid (HD9.out.below hbw); have HK9 := Lib.hid (HK9.out.below hbw); have HB9 := Lib.hid (bl_then HB9.out hbw); clear hbw; have kt0 := HK9.out.cell 0; have kt1 := HK9.out.cell 1; have kt2 := HK9.out.cell 2; have kt3 := HK9.out.cell 3; have kt4 := HK9.out.cell 4; have kt5 := HK9.out.cell 5; have kt6 := HK9.out.cell 6; have kt7 := HK9.out.cell 7; have kt8 := HK9.out.cell 8; have kt9 := HK9.out.cell 9; have kt10 := HK9.out.cell 10; have kt11 := HK9.out.cell 11; have kt12 := HK9.out.cell 12; have kt13 := HK9.out.cell 13; have kt14 := HK9.out.cell 14; simp only [tabC, List.getElem?_cons_zero, List.getElem?_cons_succ] at kt0 kt1 kt2 kt3 kt4 kt5 kt6 kt7 kt8 kt9 kt10 kt11 kt12 kt13 kt14; have y0 := HD9.out.cell 0; have y1 := HD9.out.cell 1; have y2 := HD9.out.cell 2; have y3 := HD9.out.cell 3; have y4 := HD9.out.cell 4; have y5 := HD9.out.cell 5; simp only [List.getElem?_cons_zero, List.getElem?_cons_succ] at y0 y1 y2 y3 y4 y5)
  | (go_at_call 88; (with_reducible refine (G5.out _ HB9.out).mono ?_); rintro e w2 ⟨rfl, hbw⟩; clear kt0 kt1 kt2 kt3 kt4 kt5 kt6 kt7 kt8 kt9 kt10 kt11 kt12 kt13 kt14; clear y0 y1 y2 y3 y4 y5; have HD9 := Lib.hid (HD9.out.below hbw); have HK9 := Lib.hid (HK9.out.below hbw); have HB9 := Lib.hid (bl_then HB9.out hbw); clear hbw; have kt0 := HK9.out.cell 0; have kt1 := HK9.out.cell 1; have kt2 := HK9.out.cell 2; have kt3 := HK9.out.cell 3; have kt4 := HK9.out.cell 4; have kt5 := HK9.out.cell 5; have kt6 := HK9.out.cell 6; have kt7 := HK9.out.cell 7; have kt8 := HK9.out.cell 8; have kt9 := HK9.out.cell 9; have kt10 := HK9.out.cell 10; have kt11 := HK9.out.cell 11; have kt12 := HK9.out.cell 12; have kt13 := HK9.out.cell 13; have kt14 := HK9.out.cell 14; simp only [tabC, List.getElem?_cons_zero, List.getElem?_cons_succ] at kt0 kt1 kt2 kt3 kt4 kt5 kt6 kt7 kt8 kt9 kt10 kt11 kt12 kt13 kt14; have y0 := HD9.out.cell 0; have y1 := HD9.out.cell 1; have y2 := HD9.out.cell 2; have y3 := HD9.out.cell 3; have y4 := HD9.out.cell 4; have y5 := HD9.out.cell 5; simp only [List.getElem?_cons_zero, List.getElem?_cons_succ] at y0 y1 y2 y3 y4 y5)
  | (go_at_call 88; (with_reducible refine (G6.out _ HB9.out).mono ?_); rintro e w2 ⟨rfl, hbw⟩; clear kt0 kt1 kt2 kt3 kt4 kt5 kt6 kt7 kt8 kt9 kt10 kt11 kt12 kt13 kt14; clear y0 y1 y2 y3 y4 y5; have HD9 := Lib.hid (HD9.out.below hbw); have HK9 := Lib.hid (HK9.out.below hbw); have HB9 := Lib.hid (bl_then HB9.out hbw); clear hbw; have kt0 := HK9.out.cell 0; have kt1 := HK9.out.cell 1; have kt2 := HK9.out.cell 2; have kt3 := HK9.out.cell 3; have kt4 := HK9.out.cell 4; have kt5 := HK9.out.cell 5; have kt6 := HK9.out.cell 6; have kt7 := HK9.out.cell 7; have kt8 := HK9.out.cell 8; have kt9 := HK9.out.cell 9; have kt10 := HK9.out.cell 10; have kt11 := HK9.out.cell 11; have kt12 := HK9.out.cell 12; have kt13 := HK9.out.cell 13; have kt14 := HK9.out.cell 14; simp only [tabC, List.getElem?_cons_zero, List.getElem?_cons_succ] at kt0 kt1 kt2 kt3 kt4 kt5 kt6 kt7 kt8 kt9 kt10 kt11 kt12 kt13 kt14; have y0 := HD9.out.cell 0; have y1 := HD9.out.cell 1; have y2 := HD9.out.cell 2; have y3 := HD9.out.cell 3; have y4 := HD9.out.cell 4; have y5 := HD9.out.cell 5; simp only [List.getElem?_cons_zero, List.getElem?_cons_succ] at y0 y1 y2 y3 y4 y5))
                all_goals first
                  | (go_ret; exact OneW.f HB9.out)
                  | (go_roundw
                     case rel => exact ⟨p + 1, by go_num, by omega, HB9, HK9⟩
                     case measure => simp [intOf]; omega)
        · go_wp2_with fail
          obtain ⟨wo, rfl⟩ : ∃ wo : World, wo = wr := ⟨_, rfl⟩
          clear kt0 kt1 kt2 kt3 kt4 kt5 kt6 kt7 kt8 kt9 kt10 kt11 kt12 kt13 kt14
          go_loopw [7] (fun i wr => ∃ (p : Nat), i = .int .i64 p ∧ p ≤ t.fu.length ∧ Hid (Below w.heap.size w wr) ∧ Hid (BK wr w.heap.size (tabC x t) 28)) (fun i _ => t.fu.length - (intOf i).toNat)
          case atStart => exact ⟨0, rfl, Nat.zero_le _, hB, hK⟩
          case round =>
            clear hB hK hlt hpl
            obtain ⟨p, rfl, hpl, hB, hK⟩ := hrel
            have kt0 := hK.out.cell 0; have kt1 := hK.out.cell 1; have kt2 := hK.out.cell 2; have kt3 := hK.out.cell 3; have kt4 := hK.out.cell 4; have kt5 := hK.out.cell 5; have kt6 := hK.out.cell 6; have kt7 := hK.out.cell 7; have kt8 := hK.out.cell 8; have kt9 := hK.out.cell 9; have kt10 := hK.out.cell 10; have kt11 := hK.out.cell 11; have kt12 := hK.out.cell 12; have kt13 := hK.out.cell 13; have kt14 := hK.out.cell 14; simp only [tabC, List.getElem?_cons_zero, List.getElem?_cons_succ] at kt0 kt1 kt2 kt3 kt4 kt5 kt6 kt7 kt8 kt9 kt10 kt11 kt12 kt13 kt14
            have hwlt : w.heap.size < wr.heap.size := hK.out.lt
            by_cases hlt : p < t.fu.length
            · obtain ⟨b, off, cap, hv, hcap, hblt, hcell⟩ := int_open (HT.out.fu.below hB.out) (by omega)
              have hac : x.a11 = some ⟨b, off, none⟩ := by simp at hv; exact hv.1
              have e0 := hcell p hlt
              generalize t.fu[p] = n1 at e0
              have G1 := Lib.hid (fun w => (refFrom n1 0 ((t.pa.length : Int) - 1) w).mono fun e w' h => IffB.val h)
              generalize pB (0 ≤ n1 ∧ n1 ≤ (t.pa.length : Int) - 1) = d1 at G1
              have hk0 : (0 : Int) ≤ (p : Int) := by omega
              have hk1 : (p : Int) < (t.fu.length : Int) := by omega
              rw [hac] at kt11
              clear hcell hv hac
              cases d1 with
              | false =>
                go_wp2_with fail
                refine region_text (fun w' => Below wr.heap.size wr w') (by kernel_rfl) (by kernel_rfl) ((Below.refl _ _).drew) (fun KK hKK => ?_)
                intro OPS
                try simp only [List.append]
                repeat (first
                  | (refine' inText_val ?_ ?_ ?_ ?_
                     rotate_left 2
                     · rfl
                     · (intro w' hS; obtain ⟨hcc, hff⟩ := bcell hS; go_simp; try with_reducible rfl)
                     · (simp only [Act.put, List.setIfInBounds_toArray, List.set_cons_zero, List.set_cons_succ]; with_reducible rfl))
                  | (refine' inText_skip ?_ ?_ ?_
                     rotate_left 1
                     · rfl
                     · (simp only [Act.put, List.setIfInBounds_toArray, List.set_cons_zero, List.set_cons_succ]; with_reducible rfl))
                  | (refine' inText_call ?_ ?_ ?_ ?_ ?_
                     rotate_left 4
                     · rfl
                     · (intro w' hS; obtain ⟨hcc, hff⟩ := bcell hS; go_simp; exact ⟨rfl, rfl⟩)
                     · (intro w' hS
                        first
                          | (go_at_call 56; (with_reducible refine (G1.out w').mono ?_); exact fun e w'' h => ⟨h.1, by rw [← h.2]; exact hS⟩))
                     · (simp only [Act.put, List.setIfInBounds_toArray, List.set_cons_zero, List.set_cons_succ]; with_reducible rfl)))
                refine inText_nil (hKK.out _ (fun w' hS => ?_))
                have HB9 := Lib.hid (bl_then hB.out hS)
                have HK9 := Lib.hid (hK.out.below hS)
                clear hS hKK
                go_wp2
                first
                  | (go_ret; exact OneW.f HB9.out)
                  | (go_roundw
                     case rel => exact ⟨p + 1, by go_num, by omega, HB9, HK9⟩
                     case measure => simp [intOf]; omega)
              | true =>
                go_wp2_with fail
                refine region_text (fun w' => Below wr.heap.size wr w') (by kernel_rfl) (by kernel_rfl) ((Below.refl _ _).drew) (fun KK hKK => ?_)
                intro OPS
                try simp only [List.append]
                repeat (first
                  | (refine' inText_val ?_ ?_ ?_ ?_
                     rotate_left 2
                     · rfl
                     · (intro w' hS; obtain ⟨hcc, hff⟩ := bcell hS; go_simp; try with_reducible rfl)
                     · (simp only [Act.put, List.setIfInBounds_toArray, List.set_cons_zero, List.set_cons_succ]; with_reducible rfl))
                  | (refine' inText_skip ?_ ?_ ?_
                     rotate_left 1
                     · rfl
                     · (simp only [Act.put, List.setIfInBounds_toArray, List.set_cons_zero, List.set_cons_succ]; with_reducible rfl))
                  | (refine' inText_call ?_ ?_ ?_ ?_ ?_
                     rotate_left 4
                     · rfl
                     · (intro w' hS; obtain ⟨hcc, hff⟩ := bcell hS; go_simp; exact ⟨rfl, rfl⟩)
                     · (intro w' hS
                        first
                          | (go_at_call 56; (with_reducible refine (G1.out w').mono ?_); exact fun e w'' h => ⟨h.1, by rw [← h.2]; exact hS⟩))
                     · (simp only [Act.put, List.setIfInBounds_toArray, List.set_cons_zero, List.set_cons_succ]; with_reducible rfl)))
                refine inText_nil (hKK.out _ (fun w' hS => ?_))
                have HB9 := Lib.hid (bl_then hB.out hS)
                have HK9 := Lib.hid (hK.out.below hS)
                clear hS hKK
                go_wp2
                first
                  | (go_ret; exact OneW.f HB9.out)
                  | (go_roundw
                     case rel => exact ⟨p + 1, by go_num, by omega, HB9, HK9⟩
                     case measure => simp [intOf]; omega)
            · go_wp2_with fail
              obtain ⟨wo, rfl⟩ : ∃ wo : World, wo = wr := ⟨_, rfl⟩
              clear kt0 kt1 kt2 kt3 kt4 kt5 kt6 kt7 kt8 kt9 kt10 kt11 kt12 kt13 kt14
              clear hwlt
              go_loopw [8] (fun i wr => ∃ (p : Nat), i = .int .i64 p ∧ p ≤ t.da.length ∧ Hid (Below w.heap.size w wr) ∧ Hid (BK wr w.heap.size (tabC x t) 28)) (fun i _ => t.da.length - (intOf i).toNat)
              case atStart => exact ⟨0, rfl, Nat.zero_le _, hB, hK⟩
              case round =>
                clear hB hK hlt hpl
                obtain ⟨p, rfl, hpl, hB, hK⟩ := hrel
                have kt0 := hK.out.cell 0; have kt1 := hK.out.cell 1; have kt2 := hK.out.cell 2; have kt3 := hK.out.cell 3; have kt4 := hK.out.cell 4; have kt5 := hK.out.cell 5; have kt6 := hK.out.cell 6; have kt7 := hK.out.cell 7; have kt8 := hK.out.cell 8; have kt9 := hK.out.cell 9; have kt10 := hK.out.cell 10; have kt11 := hK.out.cell 11; have kt12 := hK.out.cell 12; have kt13 := hK.out.cell 13; have kt14 := hK.out.cell 14; simp only [tabC, List.getElem?_cons_zero, List.getElem?_cons_succ] at kt0 kt1 kt2 kt3 kt4 kt5 kt6 kt7 kt8 kt9 kt10 kt11 kt12 kt13 kt14
                have hwlt : w.heap.size < wr.heap.size := hK.out.lt
                by_cases hlt : p < t.da.length
                · obtain ⟨b, off, cap, hv, hcap, hblt, hcell⟩ := int_open (HT.out.da.below hB.out) (by omega)
                  have hac : x.a12 = some ⟨b, off, none⟩ := by simp at hv; exact hv.1
                  have e0 := hcell p hlt
                  generalize t.da[p] = n1 at e0
                  have G1 := Lib.hid (fun w' (hb : Below w.heap.size w w') => (HRT.out n1 false w' hb).mono fun e w' h => IffW.val h)
                  generalize pB (RtOk t n1 false) = d1 at G1
                  have hk0 : (0 : Int) ≤ (p : Int) := by omega
                  have hk1 : (p : Int) < (t.da.length : Int) := by omega
                  rw [hac] at kt12 G1
                  clear hcell hv hac
                  cases d1 with
                  | false =>
                    go_wp2_with fail
                    refine region_text (fun w' => Below wr.heap.size wr w') (by kernel_rfl) (by kernel_rfl) ((Below.refl _ _).drew) (fun KK hKK => ?_)
                    intro OPS
                    try simp only [List.append]
                    repeat (first
                      | (refine' inText_val ?_ ?_ ?_ ?_
                         rotate_left 2
                         · rfl
                         · (intro w' hS; obtain ⟨hcc, hff⟩ := bcell hS; go_simp; try with_reducible rfl)
                         · (simp only [Act.put, List.setIfInBounds_toArray, List.set_cons_zero, List.set_cons_succ]; with_reducible rfl))
                      | (refine' inText_skip ?_ ?_ ?_
                         rotate_left 1
                         · rfl
                         · (simp only [Act.put, List.setIfInBounds_toArray, List.set_cons_zero, List.set_cons_succ]; with_reducible rfl))
                      | (refine' inText_call ?_ ?_ ?_ ?_ ?_
                         rotate_left 4
                         · rfl
                         · (intro w' hS; obtain ⟨hcc, hff⟩ := bcell hS; go_simp; exact ⟨rfl, rfl⟩)
                         · (intro w' hS
                            first
                              | (go_at_call 88; (with_reducible refine (G1.out w' (bl_then hB.out hS)).mono ?_); exact fun e w'' h => ⟨h.1, bl_then hS h.2⟩))
                         · (simp only [Act.put, List.setIfInBounds_toArray, List.set_cons_zero, List.set_cons_succ]; with_reducible rfl)))
                    refine inText_nil (hKK.out _ (fun w' hS => ?_))
                    have HB9 := Lib.hid (bl_then hB.out hS)
                    have HK9 := Lib.hid (hK.out.below hS)
                    clear hS hKK
                    go_wp2
                    first
                      | (go_ret; exact OneW.f HB9.out)
                      | (go_roundw
                         case rel => exact ⟨p + 1, by go_num, by omega, HB9, HK9⟩
                         case measure => simp [intOf]; omega)
                  | true =>
                    go_wp2_with fail
                    refine region_text (fun w' => Below wr.heap.size wr w') (by kernel_rfl) (by kernel_rfl) ((Below.refl _ _).drew) (fun KK hKK => ?_)
                    intro OPS
                    try simp only [List.append]
                    repeat (first
                      | (refine' inText_val ?_ ?_ ?_ ?_
                         rotate_left 2
                         · rfl
                         · (intro w' hS; obtain ⟨hcc, hff⟩ := bcell hS; go_simp; try with_reducible rfl)
                         · (simp only [Act.put, List.setIfInBounds_toArray, List.set_cons_zero, List.set_cons_succ]; with_reducible rfl))
                      | (refine' inText_skip ?_ ?_ ?_
                         rotate_left 1
                         · rfl
                         · (simp only [Act.put, List.setIfInBounds_toArray, List.set_cons_zero, List.set_cons_succ]; with_reducible rfl))
                      | (refine' inText_call ?_ ?_ ?_ ?_ ?_
                         rotate_left 4
                         · rfl
                         · (intro w' hS; obtain ⟨hcc, hff⟩ := bcell hS; go_simp; exact ⟨rfl, rfl⟩)
                         · (intro w' hS
                            first
                              | (go_at_call 88; (with_reducible refine (G1.out w' (bl_then hB.out hS)).mono ?_); exact fun e w'' h => ⟨h.1, bl_then hS h.2⟩))
                         · (simp only [Act.put, List.setIfInBounds_toArray, List.set_cons_zero, List.set_cons_succ]; with_reducible rfl)))
                    refine inText_nil (hKK.out _ (fun w' hS => ?_))
                    have HB9 := Lib.hid (bl_then hB.out hS)
                    have HK9 := Lib.hid (hK.out.below hS)
                    clear hS hKK
                    go_wp2
                    first
                      | (go_ret; exact OneW.f HB9.out)
                      | (go_roundw
                         case rel => exact ⟨p + 1, by go_num, by omega, HB9, HK9⟩
                         case measure => simp [intOf]; omega)
                · have hl := HLn.out
                  go_wp2
                  go_ret
                  exact OneW.t hB.out ⟨hl.1, hl.2.1, hl.2.2.1, hl.2.2.2, HAll.out⟩
end Go.Proofs.YtjggklfegcejhaaGreat
namespace Go.Proofs.YtjggklfegcejhaaGreat
open Go.RowKit Go.PlainAid
set_option linter.unusedVariables false
set_option linter.unusedSimpArgs false

/-- Tables that may be. -/
structure FitsOk (t : TbC) : Prop where
  he : HeadOk t
  th : ThingsOk t
  ru : RulesOk t
theorem ThingsOk.words {t : TbC} (h : ThingsOk t) : ∀ y ∈ t.th, ((∀ s ∈ y.wd, WordOk s) ∧ y.wd.length ≤ 8) ∧ ((∀ s ∈ y.ad, WordOk s) ∧ y.ad.length ≤ 8) := by
  intro y hy
  obtain ⟨j, hj, rfl⟩ := List.getElem_of_mem hy
  rcases Nat.eq_zero_or_pos j with rfl | h1
  · have h2 := (h.none hj).2.2.2.2.2.2.1
    have h3 : (t.th[0]).wd = [] := List.length_eq_zero_iff.1 (by omega)
    have h4 : (t.th[0]).ad = [] := List.length_eq_zero_iff.1 (by omega)
    rw [h3, h4]
    exact ⟨⟨(fun s hs => by cases hs), by decide⟩, ⟨(fun s hs => by cases hs), by decide⟩⟩
  · have h2 := h.at_ j hj h1
    exact ⟨⟨h2.wd.1, by have := h2.wd.2; omega⟩, ⟨h2.ad.1, by have := h2.ad.2; omega⟩⟩
set_option maxRecDepth 100000 in
set_option maxHeartbeats 4000000 in
theorem refFits (x : TAd) (t : TbC) (w : World) (ht : TabIs w x t) :
    Calls Tryz.prog 19 #[tabV x t] w (OneW (FitsOk t) w) := by
  have HT := Lib.hid ht
  have HB0 := Lib.hid (bl_tab w x t)
  have HK0 : Hid (BK (tabW w x t) w.heap.size (tabC x t) 28) := Lib.hid (BK.new w (tabC x t) 28)
  obtain ⟨W0, hW0⟩ : ∃ W0, tabW w x t = W0 := ⟨_, rfl⟩
  rw [hW0] at HB0 HK0
  have H1 := Lib.hid (fun w' (hb : Below w.heap.size w w') => refHead x t w' (HT.out.below hb))
  have H2 := Lib.hid (fun w' (hb : Below w.heap.size w w') => refThings x t w' (HT.out.below hb))
  have H3 := Lib.hid (fun w' (hb : Below w.heap.size w w') => refRules x t w' (HT.out.below hb))
  unfold tabW tabC at hW0
  unfold tabV tabC at *
  clear ht
  obtain ⟨kt0, kt1, kt2, kt3, kt4, kt5, kt6, kt7, kt8, kt9, kt10, kt11, kt12, kt13, kt14⟩ := tab15 (HK0.out)
  go_enter Tryz.func19, Tryz.ntmps19
  go_wp2_with fail
  clear hW0
  refine (H1.out _ HB0.out).mono ?_
  rintro e w1 ⟨b1, rfl, h1, hb1⟩
  have HB1 := Lib.hid (bl_then HB0.out hb1)
  have HK1 := Lib.hid (HK0.out.below hb1)
  have HP1 := Lib.hid h1
  clear hb1 h1
  clear kt0 kt1 kt2 kt3 kt4 kt5 kt6 kt7 kt8 kt9 kt10 kt11 kt12 kt13 kt14
  cases b1 with
  | false =>
    go_wp2
    go_ret
    exact OneW.f HB1.out
  | true =>
    obtain ⟨kt0, kt1, kt2, kt3, kt4, kt5, kt6, kt7, kt8, kt9, kt10, kt11, kt12, kt13, kt14⟩ := tab15 (HK1.out)
    go_wp2_with fail
    refine (H2.out _ HB1.out).mono ?_
    rintro e w2 ⟨b2, rfl, h2, hb2⟩
    have HB2 := Lib.hid (bl_then HB1.out hb2)
    have HK2 := Lib.hid (HK1.out.below hb2)
    have HP2 := Lib.hid h2
    clear hb2 h2
    clear kt0 kt1 kt2 kt3 kt4 kt5 kt6 kt7 kt8 kt9 kt10 kt11 kt12 kt13 kt14
    cases b2 with
    | false =>
      go_wp2
      go_ret
      exact OneW.f HB2.out
    | true =>
      obtain ⟨kt0, kt1, kt2, kt3, kt4, kt5, kt6, kt7, kt8, kt9, kt10, kt11, kt12, kt13, kt14⟩ := tab15 (HK2.out)
      go_wp2_with fail
      refine (H3.out _ HB2.out).mono ?_
      rintro e w3 ⟨b3, rfl, h3, hb3⟩
      have HB3 := Lib.hid (bl_then HB2.out hb3)
      have HP3 := Lib.hid h3
      clear hb3 h3
      clear kt0 kt1 kt2 kt3 kt4 kt5 kt6 kt7 kt8 kt9 kt10 kt11 kt12 kt13 kt14
      cases b3 with
      | false =>
        go_wp2
        go_ret
        exact OneW.f HB3.out
      | true =>
        go_wp2
        go_ret
        exact OneW.t HB3.out ⟨HP1.out (by trivial), HP2.out (by trivial), HP3.out (by trivial)⟩
end Go.Proofs.YtjggklfegcejhaaGreat
