/- The walk of the law OutAgain: it answers true. -/
import Derived.Test.YtfnadieccdgnnaaDoorLaw44b
import Derived.Test.YtfnadieccdgnnaaDoorOutPlain3
namespace Go.Proofs.YtfnadieccdgnnaaDoor
open Go.RowKit Go.PlainAid
set_option linter.unusedVariables false
set_option linter.unusedSimpArgs false

theorem u8_lit (w : World) (c : Int) (T : TypeId) (b : UInt8) (h : c = (b.toNat : Int)) : BytesAt (w.alloc (.cells #[.int .u8 c] T)) w.heap.size [b] := by
  intro j hj
  simp at hj
  subst hj
  have hb := BK.new w [.int .u8 c] T
  refine ⟨?_, hb.fr 0⟩
  have := hb.cell 0
  rw [this, h]; rfl

theorem mkB_get (l : List UInt8) (j : Nat) (h : j < (mkB l).size) (h' : j < l.length) : (mkB l)[j]'h = l[j]'h' := by
  show (l.toArray)[j]'_ = _
  rfl
theorem slen (Y : List (List UInt8)) : ∀ u ∈ Y.map strV, u.oneCell' = true := fun u hu => by obtain ⟨z, _, rfl⟩ := List.mem_map.1 hu; rfl
set_option maxRecDepth 100000 in
set_option maxHeartbeats 8000000 in
theorem walkAgain (s : ByteArray) (width height m : Int) (w : World) (hk : keeps m w) (hs : s.size ≤ maxLen) (h2 : height ≤ 9223372036854775807) :
    Calls Tryd.prog 6 #[.string s, .int .i64 width, .int .i64 height] w fun e w' => e = .returned (.bool true) ∧ Below w.heap.size w w' := by
  obtain ⟨i0, hi, hz0, hz1, hz2⟩ := info_parts Tryd.infoStr
  unfold maxLen at hs
  have HK := Lib.hid hk
  have h0 := hk.2
  clear hk
  by_cases hl : 1000 < s.size
  · go_enter Tryd.func6, Tryd.ntmps6
    go_wp2_with (go_at_call 7; refine (awake44 m _ HK.out).mono ?_; rintro e w1 ⟨rfl, hb1⟩)
    go_ret
    exact ⟨rfl, hb1⟩
  · obtain ⟨l, hll⟩ : ∃ l, s.data.toList = l := ⟨_, rfl⟩
    have hsb : s = mkB l := by rw [← hll]; exact (mkB_of s).symm
    subst hsb
    have hss := mkB_size l
    rw [hss] at hs hl
    clear hll
    have hwb := wide_bd width
    have hwt := wrap_tot (wideN width) l
    have hwl := tot_length (wrapO (wideN width) l)
    have HAg := Lib.hid (wrap_again (wideN width) (by omega) l)
    have HTr := Lib.hid (wrap_trip (wideN width) l)
    have HW := Lib.hid (fun l w => fun h1 h2 => outWrapL l width m w h1 h2)
    obtain ⟨n, hn⟩ : ∃ n, wideN width = n := ⟨_, rfl⟩
    rw [hn] at hwt hwl HAg HTr HW
    clear hn hwb
    obtain ⟨Y, hY⟩ : ∃ Y, wrapO n l = Y := ⟨_, rfl⟩
    rw [hY] at hwt hwl HAg HTr
    have HY := Lib.hid hY
    clear hY
    have hn1 : 0 < highN height := by unfold highN; omega
    have hni : max height 1 = (highN height : Int) := by unfold highN; omega
    have HP := Lib.hid (fun v w h => outPages v Y height w (by omega) h h2)
    have HPf := Lib.hid (pages_flat hn1 _ Y (Nat.le_refl _))
    have HPa := Lib.hid (pages_at hn1 _ Y (Nat.le_refl _))
    have hPl := pages_len (highN height) _ Y (Nat.le_refl _)
    obtain ⟨q, hq⟩ : ∃ q, highN height = q := ⟨_, rfl⟩
    rw [hq] at hni HP HPf HPa hPl
    have HNi := Lib.hid hni
    obtain ⟨P, hPP⟩ : ∃ P, pagesO q Y = P := ⟨_, rfl⟩
    rw [hPP] at HP HPf HPa hPl
    clear hn1 hni hq hPP
    have hYm : Y.length ≤ maxLen := by unfold maxLen; omega
    go_enter Tryd.func6, Tryd.ntmps6
    go_wp2_with fail
    refine (HW.out l _ (by omega) HK.out).mono ?_
    rintro e w1 ⟨v1, rfl, o1, hb1⟩
    rw [HY.out] at o1
    have HC1 := Lib.hid (SLC.own o1 hYm)
    obtain ⟨a1, c1, hv1⟩ := o1.sl hYm |>.len
    rw [List.length_map] at hv1
    subst hv1
    have Hb1 := Lib.hid hb1
    clear o1 hb1
    go_wp2_with fail
    go_loop [8, 10] (fun t i => ∃ (k : Nat) (z : List UInt8), k ≤ Y.length ∧ i = .int .i64 k ∧ t = .string (mkB z) ∧ z.length ≤ 4004 ∧ Hid (z = feedO (Y.take k))) (fun _ i => Y.length - (intOf i).toNat)
    case atStart => exact ⟨0, [], Nat.zero_le _, rfl, rfl, by simp, Lib.hid rfl⟩
    case round =>
      obtain ⟨k, z, hk, rfl, rfl, hzl, hZ⟩ := hrel
      by_cases hlt : k < Y.length
      · have hne : Y.map strV ≠ [] := by intro e; have := congrArg List.length e; simp at this; rw [this] at hlt; simp at hlt
        obtain ⟨b, off, c', hv, hcc, hblt, hcell⟩ := HC1.out.shape hne
        have hac : a1 = some ⟨b, off, none⟩ ∧ c1 = c' := by simp at hv; exact hv
        obtain ⟨rfl, rfl⟩ := hac
        have x1 := hcell k (by simpa using hlt)
        rw [List.getElem_map] at x1
        have hfs := feed_take Y k hlt
        have hfl := feed_len (Y.take (k + 1))
        have hft := tot_take Y (k + 1)
        rw [hfs, ← hZ.out] at hfl
        rw [← hZ.out] at hfs
        generalize Y[k] = x at x1 hfs hfl
        have HF : Hid (mkB z ++ mkB x ++ (⟨#[10]⟩ : ByteArray) = mkB (z ++ x ++ [10])) := Lib.hid (by
          have e : (⟨#[10]⟩ : ByteArray) = mkB [10] := rfl
          rw [e, mkB_app, mkB_app])
        have HZ2 : Hid (z ++ x ++ [10] = feedO (Y.take (k + 1))) := Lib.hid hfs.symm
        unfold strV at x1
        have z1 := mkB_size z
        have z2 := mkB_size x
        simp at hfl
        have z3 : (mkB z ++ mkB x).size = z.length + x.length := by rw [mkB_app, mkB_size]; simp
        clear hv hne hcell hfs
        go_wp2
        go_round
        case rel => exact ⟨k + 1, _, by omega, by go_num, congrArg Value.string HF.out, by simp; omega, HZ2⟩
        case measure => simp [intOf]; omega
      · have HT0 : Hid (z = feedO Y) := Lib.hid (by rw [hZ.out, List.take_of_length_le (by omega)])
        go_wp2_with fail
        go_loopw [9, 11] (fun u i wr => ∃ (j : Nat) (y : List UInt8), j ≤ l.length ∧ i = .int .i64 j ∧ u = .string (mkB y) ∧ y.length ≤ 3 * j ∧ Hid (y = tripO (l.take j)) ∧ Hid (Below w1.heap.size w1 wr)) (fun _ i _ => l.length - (intOf i).toNat)
        case atStart => exact ⟨0, [], Nat.zero_le _, rfl, rfl, by simp, Lib.hid rfl, Lib.hid (Below.refl _ _)⟩
        case round =>
          obtain ⟨j, y, hj, rfl, rfl, hyl, hU, hBl⟩ := hrel
          by_cases hjt : j < l.length
          · have hts := trip_take l j hjt
            have hU1 : tripO (l.take j) = y := hU.out.symm
            rw [hU1] at hts
            have hsz : j < (mkB l).size := by rw [hss]; exact hjt
            have hbt : (mkB l)[j]'hsz = l[j] := mkB_get l j _ _
            generalize l[j] = c at hts hbt
            have Hts := Lib.hid hts
            have hu8 := fun w : World => back_conv (P := Tryd.prog) (w.alloc (.cells #[.int .u8 (c.toNat : Int)] 5)) 32 9 5 w.heap.size 1 1 [c] Tryd.underlying32 Tryd.underlying5 Tryd.underlying9 rfl (u8_lit w _ _ c rfl)
            clear hts hU1
            have y1 := mkB_size y
            have y2 : (⟨[c].toArray⟩ : ByteArray).size = 1 := rfl
            have y3 : (mkB y ++ (⟨[c].toArray⟩ : ByteArray)).size = y.length + 1 := by rw [show (⟨[c].toArray⟩ : ByteArray) = mkB [c] from rfl, mkB_app, mkB_size]; simp
            by_cases hc : c = 32
            · have h32 : ((c.toNat : Int) == 32) = true := by rw [hc]; rfl
              have HZ3 : Hid (mkB y ++ (⟨[c].toArray⟩ : ByteArray) ++ (⟨#[32, 32]⟩ : ByteArray) = mkB (y ++ [c] ++ [32, 32])) := Lib.hid (by
                rw [show (⟨[c].toArray⟩ : ByteArray) = mkB [c] from rfl, show (⟨#[32, 32]⟩ : ByteArray) = mkB [32, 32] from rfl, mkB_app, mkB_app])
              have HZ4 : Hid (y ++ [c] ++ [32, 32] = tripO (l.take (j + 1))) := Lib.hid (by rw [Hts.out, hc]; unfold tripB; rw [if_pos rfl]; simp)
              clear hc
              go_wp2
              go_roundw
              case rel => exact ⟨j + 1, _, by omega, by go_num, congrArg Value.string HZ3.out, by simp; omega, HZ4, Lib.hid (bl_a hBl.out _)⟩
              case measure => simp [intOf]; omega
            · have h32 : ((c.toNat : Int) == 32) = false := by
                rw [beq_eq_false_iff_ne]
                intro e
                exact hc (UInt8.toNat_inj.1 (by have : (32 : UInt8).toNat = 32 := rfl; omega))
              have HZ3 : Hid (mkB y ++ (⟨[c].toArray⟩ : ByteArray) = mkB (y ++ [c])) := Lib.hid (by
                rw [show (⟨[c].toArray⟩ : ByteArray) = mkB [c] from rfl, mkB_app])
              have HZ4 : Hid (y ++ [c] = tripO (l.take (j + 1))) := Lib.hid (by rw [Hts.out]; unfold tripB; rw [if_neg hc])
              clear hc
              go_wp2
              go_roundw
              case rel => exact ⟨j + 1, _, by omega, by go_num, congrArg Value.string HZ3.out, by simp; omega, HZ4, Lib.hid (bl_a hBl.out _)⟩
              case measure => simp [intOf]; omega
          · have HU2 : Hid (y = tripO l) := Lib.hid (by rw [hU.out, List.take_of_length_le (by omega)])
            have hb2 := Lib.hid (hBl.out)
            have Hb3 : Hid (Below w.heap.size w wr) := Lib.hid (Hb1.out.trans (hBl.out.mono Hb1.out.size))
            obtain ⟨w2, hw2⟩ : ∃ w2 : World, w2 = wr := ⟨_, rfl⟩
            have HC2 := Lib.hid (HC1.out.below hBl.out)
            rw [← hw2] at Hb3 HC2 ⊢
            clear hw2 hb2
            go_wp2_with fail
            refine (HP.out _ _ HC2.out).mono ?_
            rintro e w3 ⟨v3, rfl, o3, hb3⟩
            obtain ⟨a3, c3, hv3⟩ := o3.len
            subst hv3
            have H3 := Lib.hid o3
            have HC3 := Lib.hid (HC2.out.below hb3)
            have Hb4 : Hid (Below w.heap.size w w3) := Lib.hid (Hb3.out.trans (hb3.mono Hb3.out.size))
            clear o3 hb3
            go_wp2_with fail
            have hni := HNi.out
            have hsz3 : w.heap.size ≤ w3.heap.size := Hb4.out.size
            go_loopw [12, 14] (fun v i wr => ∃ (k : Nat), k ≤ P.length ∧ i = .int .i64 k ∧ Hid (OwS wr w3.heap.size v (P.take k).flatten) ∧ Hid (Below w3.heap.size w3 wr)) (fun _ i _ => P.length - (intOf i).toNat)
            case atStart => exact ⟨0, Nat.zero_le _, rfl, Lib.hid (OwS.nil _ _), Lib.hid (Below.refl _ _)⟩
            case round =>
              obtain ⟨k, hk, rfl, hO, hBw⟩ := hrel
              obtain ⟨va, vc, hv⟩ := ow_shape hO.out
              by_cases hlt : k < P.length
              · obtain ⟨vs, g1, g2, g3⟩ := H3.out
                rcases g1.2 with ⟨hl, _⟩ | ⟨b, off, c, ha, hlt1, hc1⟩
                · rw [hl] at g2; simp at g2; omega
                have ea : a3 = some ⟨b, off, none⟩ ∧ c3 = c := by simp at ha; exact ⟨ha.1, ha.2.2⟩
                obtain ⟨rfl, rfl⟩ := ea
                have x1 := hc1 k (by omega)
                have s1 := g3 k (by omega) hlt
                have hp := HPa.out k hlt
                have hfl := flat_take P k hlt
                have hle := flat_le P (k + 1)
                rw [HPf.out] at hle
                generalize vs[k]'(by omega) = vk at x1 s1
                generalize P[k] = pk at s1 hp hfl
                obtain ⟨ak, ck, hvk⟩ := s1.len
                rw [List.length_map] at hvk
                subst hvk
                have S1 := Lib.hid (s1.below hBw.out)
                have x2 : wr.cell? ⟨b, off + k, none⟩ = some (.slice ak pk.length ck) := by rw [hBw.out.cell (p := ⟨b, off + k, none⟩) hlt1]; exact x1
                obtain ⟨F, hF⟩ : ∃ F, (P.take k).flatten = F := ⟨_, rfl⟩
                rw [hF] at hO hfl hv
                have HF2 := Lib.hid hfl
                have HO := Lib.hid hO.out
                have hF2 := hfl
                rw [hF2, List.length_append] at hle
                have hbm : F.length + (pk.map strV).length ≤ maxLen ∧ (F.length + (pk.map strV).length) * 16 ≤ 140737488355328 := by rw [List.length_map]; unfold maxLen; omega
                have hsz := hBw.out.size
                obtain ⟨hp1, hp2, hp3⟩ := hp
                have hone := slen pk
                have hpn : ¬ pk = [] := fun e => by rw [e] at hp1; simp at hp1
                have hp0 : ((pk.length : Int) == 0) = false := by rw [beq_eq_false_iff_ne]; omega
                have hpq : ¬ q < pk.length := by omega
                subst hv
                clear s1 g1 g3 hc1 ha g2 x1 hF hfl hF2 hO
                by_cases hk1 : k + 1 < P.length
                · obtain rfl := hp3 hk1
                  clear hp3
                  go_wp2_with (at_builtin; refine wpList_append_SL rfl _ _ 24 rfl w3.heap.size 9 i0 (.string ByteArray.empty) 16 Tryd.underlying24 hi hz0 hz1 hz2 rfl (.slice va F.length vc) F.length (F.map strV) rfl HO.out (.slice ak pk.length ck) (pk.map strV) rfl S1.out hone hbm.1 hbm.2 hsz ?_; intro v5 w5 hown5 hgrow5)
                  have HO5 : Hid (OwS w5 w3.heap.size v5 (P.take (k + 1)).flatten) := Lib.hid (by rw [HF2.out]; unfold OwS; simpa using hown5)
                  have HB5 : Hid (Below w3.heap.size w3 w5) := Lib.hid (hBw.out.grown hgrow5 hsz (ow_lo HO.out))
                  clear hown5 hgrow5
                  go_roundw
                  case rel => exact ⟨k + 1, hlt, by go_num, HO5, HB5⟩
                  case measure => simp [intOf]; omega
                · have hk1' : ¬ ((k : Int) + 1 < (P.length : Int)) := by omega
                  clear hp3
                  go_wp2_with (at_builtin; refine wpList_append_SL rfl _ _ 24 rfl w3.heap.size 9 i0 (.string ByteArray.empty) 16 Tryd.underlying24 hi hz0 hz1 hz2 rfl (.slice va F.length vc) F.length (F.map strV) rfl HO.out (.slice ak pk.length ck) (pk.map strV) rfl S1.out hone hbm.1 hbm.2 hsz ?_; intro v5 w5 hown5 hgrow5)
                  have HO5 : Hid (OwS w5 w3.heap.size v5 (P.take (k + 1)).flatten) := Lib.hid (by rw [HF2.out]; unfold OwS; simpa using hown5)
                  have HB5 : Hid (Below w3.heap.size w3 w5) := Lib.hid (hBw.out.grown hgrow5 hsz (ow_lo HO.out))
                  clear hown5 hgrow5
                  go_roundw
                  case rel => exact ⟨k + 1, hlt, by go_num, HO5, HB5⟩
                  case measure => simp [intOf]; omega
              · have HT : Hid ((P.take k).flatten = Y) := Lib.hid (by rw [List.take_of_length_le (by omega), HPf.out])
                have hO1 := hO.out
                rw [HT.out] at hO1
                have HO := Lib.hid hO1
                clear hO1
                have HS4 := Lib.hid (HO.out.sl hYm)
                have Hb5 : Hid (Below w.heap.size w wr) := Lib.hid (Hb4.out.trans (hBw.out.mono hsz3))
                have HC4 := Lib.hid (HC3.out.below hBw.out)
                rw [HT.out] at hv
                subst hv
                obtain ⟨w4, hw4⟩ : ∃ w4 : World, w4 = wr := ⟨_, rfl⟩
                rw [← hw4] at Hb5 HC4 HS4 ⊢
                clear hw4 hO hBw hni HT HO
                have hzb := HK.out.below h0 Hb5.out
                have HKb := Lib.hid hzb
                have zl : z.length ≤ 100000 := by omega
                have yl : y.length ≤ 100000 := by omega
                have HW1 := Lib.hid (HW.out z w4 zl HKb.out)
                have HWz : Hid (wrapO n z = Y) := Lib.hid (by rw [HT0.out]; exact HAg.out)
                have HWy : Hid (wrapO n y = Y) := Lib.hid (by rw [HU2.out]; exact HTr.out)
                clear hzb
                go_wp2_with fail
                refine HW1.out.mono ?_
                rintro e w5 ⟨v5, rfl, o5, hb5⟩
                rw [HWz.out] at o5
                have H5 := Lib.hid (o5.sl hYm)
                obtain ⟨a5, c5, hv5⟩ := H5.out.len
                rw [List.length_map] at hv5
                subst hv5
                have Hb6 : Hid (Below w.heap.size w w5) := Lib.hid (Hb5.out.trans (hb5.mono Hb5.out.size))
                have HC5 := Lib.hid (HC4.out.below hb5)
                have HS5 := Lib.hid (HS4.out.below hb5)
                clear o5 hb5
                go_wp2_with fail
                refine (same14 _ _ _ _ H5.out HC5.out.1).mono ?_
                rintro e w6 ⟨rfl, n6, rfl⟩
                have HK6 := Lib.hid (HK.out.below h0 (bl_drewN Hb6.out n6))
                have HW2 := Lib.hid (HW.out y (w5.drewN n6) yl HK6.out)
                go_wp2_with fail
                refine HW2.out.mono ?_
                rintro e w7 ⟨v7, rfl, o7, hb7⟩
                rw [HWy.out] at o7
                have H7 := Lib.hid (o7.sl hYm)
                obtain ⟨a7, c7, hv7⟩ := H7.out.len
                rw [List.length_map] at hv7
                subst hv7
                have hb7' : Below w5.heap.size w5 w7 := bl_drewN2 hb7
                have Hb8 : Hid (Below w.heap.size w w7) := Lib.hid (Hb6.out.trans (hb7'.mono Hb6.out.size))
                have HC7 := Lib.hid (HC5.out.below hb7')
                have HS7 := Lib.hid (HS5.out.below hb7')
                clear o7 hb7 hb7'
                go_wp2_with fail
                refine (same14 _ _ _ _ H7.out HC7.out.1).mono ?_
                rintro e w8 ⟨rfl, n8, rfl⟩
                have HC8 := Lib.hid (HC7.out.below (bl_drewN (Below.refl _ _) n8))
                have HS8 := Lib.hid (HS7.out.below (bl_drewN (Below.refl _ _) n8))
                go_wp2_with fail
                refine (same14 _ _ _ _ HS8.out HC8.out.1).mono ?_
                rintro e w9 ⟨rfl, n9, rfl⟩
                go_wp2_with (go_at_call 7; refine (awake44 m _ (HK.out.below h0 (bl_drewN Hb8.out _))).mono ?_; rintro e w10 ⟨rfl, hb10⟩)
                go_ret
                exact ⟨rfl, (bl_drewN Hb8.out _).trans (hb10.mono Hb8.out.size)⟩
end Go.Proofs.YtfnadieccdgnnaaDoor
