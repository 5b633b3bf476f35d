/- Contract of clewref30.Disassemble. -/
import Derived.Test.YtbcpopakdlplgaaDoorAsmT2
import Derived.Deep.QuietTactic
import Derived.BigQuiet
import Derived.Deep.OwnRows
namespace Go.Proofs.YtbcpopakdlplgaaDoor
open Go.RowKit Go.PlainAid Go.Maps
set_option linter.unusedVariables false
set_option linter.unusedSimpArgs false

theorem made_rowT (n : Nat) : madeCells #[.int .i64 0] n = (rowF n (fun _ => 0)).toArray := by
  apply Array.ext
  · simp [madeCells, rowF_len]
  · intro i h1 h2
    simp [madeCells, rowF, Nat.mod_one]
set_option maxRecDepth 100000 in
set_option maxHeartbeats 8000000 in
theorem rdisC (v : Value) (b : List UInt8) (w : World) (hr : Reads Cd.byte.seq w v b) (hl : b.length ≤ 4000) :
    Calls Tryd.prog 17 #[v] w fun e w' => DisOut w (disP b) e w' := by
  obtain ⟨a, c, hv, hcap, _⟩ := hr.len
  subst hv
  have HR := Lib.hid hr
  obtain ⟨n, hn⟩ : ∃ n, b.length = n := ⟨_, rfl⟩
  have HN := Lib.hid hn
  rw [hn] at hl hcap HR ⊢
  clear hr hn
  go_enter Tryd.func17, Tryd.ntmps17
  go_wp2_with fail
  go_loopw [4, 5, 6] (fun v4 v5 i wr => ∃ (ps : List (IN × Nat)) (k f : Nat), i = .int .i64 k ∧ k ≤ n ∧ Hid (RrSt w wr b n ps k f v4 v5)) (fun _ _ i _ => n - (intOf i).toNat)
  case atStart => exact ⟨[], 0, n, rfl, Nat.zero_le _, Lib.hid ⟨by rw [List.drop_zero, preA_nil], rfl, by omega, by simp, fun p h => (by cases h), OwI.nil _ _, OwN.nil _ _, fun j h => (by cases h), Below.refl _ _⟩⟩
  case round =>
    obtain ⟨ps, k, f, rfl, hk, HS⟩ := hrel
    by_cases hlt : k < n
    · have hk0 : (0 : Int) ≤ (k : Int) := by omega
      have HDC := Lib.hid (fun wx h => rdecC (.slice a n c) b k wx h (by rw [HN.out]; exact hlt) (by rw [HN.out]; omega))
      have HRr := Lib.hid (HR.out.below HS.out.bl)
      cases hd : decI (b.drop k) with
      | inl e =>
        rw [hd] at HDC
        have hne := dec_err_pos hd
        have hne2 : (e != 0) = true := by simpa using hne
        have HE : Hid (disP b = .inl e) := Lib.hid (disP_err (n := n) (by
          rw [HN.out, ← HS.out.eq]
          obtain ⟨f', rfl⟩ : ∃ f', f = f' + 1 := ⟨f - 1, by have := HS.out.fuel; omega⟩
          rw [dec_step_no hd (by rw [List.length_drop, HN.out]; omega)]; rfl))
        clear hd
        go_wp2_with (go_at_call 40; refine (HDC.out _ HRr.out).mono ?_; rintro e' w2 ⟨rfl, hb2⟩; unfold decV)
        go_ret2
        exact disOut_err HE.out (bl_a (bl_thenA HS.out.bl hb2) _)
      | inr q =>
        obtain ⟨x, m⟩ := q
        have hok := dec_ok hd
        have hmn : k + m ≤ n := by have := hok.2.2.2.2.1; rw [List.length_drop, HN.out] at this; omega
        have hm1 : 1 ≤ m := hok.2.2.1
        have hwx : InW x := ⟨by have := hok.1; unfold opOk at this; unfold Wf; omega, by have := hok.2.1; unfold Wf; omega⟩
        have HWX := Lib.hid hwx
        have HAR := Lib.hid hok.2.1
        have HEQ : Hid (preA (ps ++ [(x, m)]) (decAll (f - 1) (b.drop (k + m))) = decAll n b ∧ n ≤ (f - 1) + (k + m)) := Lib.hid (by
          have hf := HS.out.fuel
          refine ⟨?_, by omega⟩
          rw [← HS.out.eq]
          obtain ⟨f', rfl⟩ : ∃ f', f = f' + 1 := ⟨f - 1, by omega⟩
          rw [dec_step_ok hd, preA_app, List.drop_drop]; rfl)
        rw [hd, show decV (.inr (x, m)) k = .tuple #[.agg #[.int .i64 x.op, .int .i64 x.arg], .int .i64 ((k + m : Nat) : Int), .int .i64 0] from rfl] at HDC
        obtain ⟨z, hz⟩ : ∃ z, k + m = z := ⟨_, rfl⟩
        have HZ := Lib.hid hz
        rw [hz] at HDC hmn HEQ
        obtain ⟨va, vc, hv4⟩ := ow_shape HS.out.o4
        obtain ⟨ea, ec, hv5⟩ := ow_shape HS.out.o5
        rw [List.length_map] at hv4
        rw [begs_len] at hv5
        subst hv4
        subst hv5
        obtain ⟨p, hp⟩ : ∃ p, ps.length = p := ⟨_, rfl⟩
        have HP := Lib.hid hp
        rw [hp] at HS ⊢
        have hpk : p ≤ k := by rw [← hp]; exact HS.out.cnt
        have HO4 : Hid (wr.ownsRow w.heap.size 37 2 (.slice va p vc) p (((ps.map (·.1)).map insC).flatten)) := Lib.hid (by have := HS.out.o4; unfold OwI at this; rw [List.length_map, hp] at this; exact this)
        have HO5 : Hid (wr.ownsRow w.heap.size 3 1 (.slice ea p ec) p ((begsGo ps 0).map (Value.int .i64))) := Lib.hid (by have := HS.out.o5; unfold OwN at this; rw [begs_len, hp] at this; exact this)
        obtain ⟨i0, hi, hz1', hz2', hz3'⟩ := info_parts Tryd.infoIns
        obtain ⟨j0, hj, hy1', hy2', hy3'⟩ := info_parts Tryd.infoInt
        have hbd : p + 1 ≤ maxLen ∧ (p + 1) * 16 ≤ 140737488355328 ∧ (p + 1) * 8 ≤ 140737488355328 := by unfold maxLen; omega
        have hsz := HS.out.bl.size
        clear hd hok hz hp hwx
        go_wp2_with (first
          | (go_at_call 40; refine (HDC.out _ HRr.out).mono ?_; rintro e' w2 ⟨rfl, hb2⟩; have HB2 := Lib.hid hb2; have hk4 := BK.new w2 [.int .i64 x.op, .int .i64 x.arg] 37; have z0 := hk4.cell 0; have z1 := hk4.cell 1; simp only [List.getElem?_cons_zero, List.getElem?_cons_succ] at z0 z1; have HZ4 : Hid (wr.heap.size ≤ w2.heap.size) := Lib.hid hb2.size; clear hb2 hk4)
          | (at_builtin; refine wpList_append_lies rfl _ _ 22 rfl w.heap.size 37 i0 (.agg #[.int .i64 0, .int .i64 0]) 2 16 Tryd.underlying22 hi hz1' hz2' hz3' rfl (by decide) (.slice va p vc) p (((ps.map (·.1)).map insC).flatten) rfl (ow_below (ow_below HO4.out (bl_a HB2.out _)) (bl_one _ _)) ⟨w2.heap.size + 1, 0, none⟩ 1 1 (insC x) rfl rfl (news_at (by simp) (insC x) _) (insC_one _) (by decide) hbd.1 hbd.2.1 (by have := HZ4.out; simp; omega) _ rfl ?_; intro g6 c6 w6 hown6 hgrow6 hat6 hlt6; have HO6 := Lib.hid (OwI.snoc (L := ps.map (·.1)) (x := x) (by rw [List.length_map, HP.out]; exact hown6)); have HG6 := Lib.hid hgrow6; have HAT6 := Lib.hid hat6; clear hown6 hgrow6 hat6)
          | (at_builtin; refine wpList_append_lies rfl _ _ 50 rfl w.heap.size 3 j0 (.int .i64 0) 1 8 Tryd.underlying50 hj hy1' hy2' hy3' rfl (by decide) (.slice ea p ec) p ((begsGo ps 0).map (Value.int .i64)) rfl (ow_below (ow_apart (ow_below (ow_below HO5.out (bl_a HB2.out _)) (bl_one _ _)) HG6.out (fun j hj => HS.out.ap j hj)) (bl_one w6 _)) ⟨w6.heap.size, 0, none⟩ 1 1 [.int .i64 (k : Int)] rfl rfl (news_lit w6 [.int .i64 (k : Int)] _) (ow_one rfl) (by decide) hbd.1 hbd.2.2 (by have := HZ4.out; have := HG6.out.size; rw [World.size_alloc, World.size_alloc] at this; simp; omega) _ rfl ?_; intro g8 c8 w8 hown8 hgrow8 hat8 hlt8; have HO8 := Lib.hid hown8; have HG8 := Lib.hid hgrow8; have HAT8 := Lib.hid hat8; clear hown8 hgrow8 hat8)
          | (fail))
        go_roundw
        case rel => exact ⟨ps ++ [(x, m)], z, f - 1, rfl, hmn, Lib.hid (rr_step HS.out HB2.out HO6.out HG6.out HAT6.out hlt6 HP.out HO8.out HG8.out HAT8.out HEQ.out HZ.out hm1 HWX.out HAR.out)⟩
        case measure => have := HZ.out; simp [intOf]; omega
    · have hkn : k = n := by omega
      subst hkn
      have HDA : Hid (decAll k b = .inr ps) := Lib.hid (by
        have := HS.out.eq
        rw [List.drop_of_length_le (by rw [HN.out]; exact Nat.le_refl _), decAll_nil] at this
        simpa [preA] using this.symm)
      have HBP : Hid (bpos ps ps.length = k) := Lib.hid HS.out.pos
      have HONE : Hid (∀ p ∈ ps, 1 ≤ p.2 ∧ InW p.1 ∧ -32768 ≤ p.1.arg ∧ p.1.arg ≤ 32767) := Lib.hid HS.out.one
      obtain ⟨va, vc, hv4⟩ := ow_shape HS.out.o4
      obtain ⟨ea, ec, hv5⟩ := ow_shape HS.out.o5
      rw [List.length_map] at hv4
      rw [begs_len] at hv5
      subst hv4
      subst hv5
      have hpk : ps.length ≤ k := HS.out.cnt
      obtain ⟨p, hp⟩ : ∃ p, ps.length = p := ⟨_, rfl⟩
      have HP := Lib.hid hp
      rw [hp] at hpk HS ⊢
      have HO5 : Hid (wr.ownsRow w.heap.size 3 1 (.slice ea p ec) p ((begsGo ps 0).map (Value.int .i64))) := Lib.hid (by have := HS.out.o5; unfold OwN at this; rw [begs_len, hp] at this; exact this)
      obtain ⟨j0, hj, hy1', hy2', hy3'⟩ := info_parts Tryd.infoInt
      have hbd : p + 1 ≤ maxLen ∧ (p + 1) * 8 ≤ 140737488355328 := by unfold maxLen; omega
      have hsz := HS.out.bl.size
      have hmk1 := fun w => run_make_row' (P := Tryd.prog) 50 3 (.int .i64 0) 8 Tryd.underlying50 Tryd.infoInt rfl .i64 .i64 (p + 1) (by omega) (by omega) w
      rw [made_rowT] at hmk1
      rw [show (((p + 1 : Nat)) : Int) = (p : Int) + 1 from by omega] at hmk1
      clear hp
      go_wp2_with (at_builtin; refine wpList_append_lies rfl _ _ 50 rfl w.heap.size 3 j0 (.int .i64 0) 1 8 Tryd.underlying50 hj hy1' hy2' hy3' rfl (by decide) (.slice ea p ec) p ((begsGo ps 0).map (Value.int .i64)) rfl (ow_below HO5.out (bl_one wr _)) ⟨wr.heap.size, 0, none⟩ 1 1 [.int .i64 (k : Int)] rfl rfl (news_lit wr [.int .i64 (k : Int)] _) (ow_one rfl) (by decide) hbd.1 hbd.2 (by simp; omega) _ rfl ?_; intro g8 c8 w8 hown8 hgrow8 hat8 hlt8; have HO8 := Lib.hid hown8; have HG8 := Lib.hid hgrow8; have HAT8 := Lib.hid hat8; clear hown8 hgrow8 hat8)
      have hlw : w8.heap.size = w8.heap.size := rfl
      have HC0 := Lib.hid (ct_start HS.out HP.out HO8.out HG8.out HAT8.out hlt8)
      obtain ⟨C, hC⟩ : ∃ C, w8.heap.size = C := ⟨_, rfl⟩
      rw [hC] at HC0
      have HCC := Lib.hid hC
      clear hC hlw hlt8 HS
      rw [HCC.out]
      go_loopw [11] (fun i wz => ∃ t : Nat, i = .int .i64 t ∧ t ≤ p ∧ Hid (CtSt w wz k C ps (.slice va p vc) (.slice (some ⟨g8, 0, none⟩) (p + 1) c8) t)) (fun i _ => p - (intOf i).toNat)
      case atStart => exact ⟨0, rfl, Nat.zero_le _, HC0⟩
      case round =>
        obtain ⟨t, rfl, ht, HS⟩ := hrel
        by_cases hlt2 : t < p
        · have htl : t < ps.length := by rw [HP.out]; exact hlt2
          obtain ⟨x, hx⟩ : ∃ x, (psAt ps t).1 = x := ⟨_, rfl⟩
          obtain ⟨g, c', hg1, hg2, hg3, c0, c1⟩ := HS.out.o4.at (by rw [mixR_len, HP.out]) t hlt2 x (by rw [mixR_at htl, if_neg (by omega), hx])
          simp at hg1
          obtain ⟨rfl, rfl⟩ := hg1
          have hone := HONE.out ps[t] (List.getElem_mem htl)
          rw [← psAt_get htl, hx] at hone
          have HW := Lib.hid hone.2.1
          have har := hone.2.2
          have HX := Lib.hid hx
          have hk0 : (0 : Int) ≤ (t : Int) := by omega
          have hk1 : (t : Int) < (p : Int) := by omega
          obtain ⟨e, he⟩ : ∃ e, bpos ps (t + 1) = e := ⟨_, rfl⟩
          have HEe := Lib.hid he
          have hek : e ≤ k := by rw [← he, ← HBP.out]; exact bpos_le ps (t + 1) (by omega)
          clear hx he hone hg2
          cases hj : isJ x with
          | false =>
            have HA := Lib.hid (fun w => jumpsC2 x false hj w)
            have HS2 : Hid (∀ w', Below wr.heap.size wr w' → CtSt w w' k C ps (.slice (some ⟨g, 0, none⟩) p vc) (.slice (some ⟨g8, 0, none⟩) (p + 1) c8) (t + 1)) := Lib.hid (fun w' hb => (HS.out.below hb).no htl (by rw [HX.out]; exact hj))
            clear hj
            go_wp2_with (go_at_call 26; refine (HA.out _).mono ?_; rintro e' w2 ⟨rfl, hb2⟩)
            go_roundw
            case rel => exact ⟨t + 1, by go_num, by omega, Lib.hid (HS2.out _ hb2)⟩
            case measure => simp [intOf]; omega
          | true =>
            have HA := Lib.hid (fun w => jumpsC2 x true hj w)
            have HJ := Lib.hid hj
            obtain ⟨tg, htg⟩ : ∃ tg, tgD ps t (psAt ps t) = tg := ⟨_, rfl⟩
            have htg2 : (e : Int) + x.arg = tg := by rw [← htg]; unfold tgD; rw [HEe.out, HX.out]
            have HTP : Hid (toP ps t = toK ps tg (p + 1)) := Lib.hid (by unfold toP; rw [htg, HP.out])
            have hwr : IntKind.i64.wrap ((e : Int) + x.arg) = tg := by rw [← htg2]; exact IntWalk.i64_in _ (by omega)
            have hbt : -40000 ≤ tg ∧ tg ≤ 40000 := by omega
            clear hj htg htg2
            go_wp2_with fail
            refine (HA.out _).mono ?_
            rintro e' w3 ⟨rfl, hb3⟩
            have HS3 := Lib.hid (HS.out.below hb3)
            have hgl3 : g < w3.heap.size := Nat.lt_of_lt_of_le hg3 hb3.size
            have C1 := Lib.hid ((hb3.cell (p := ⟨g, t * 2 + 1, none⟩) hg3).trans c1)
            clear hb3
            go_wp2_with fail
            go_loopw [12, 13] (fun s i wx => ∃ (j q : Nat), i = .int .i64 j ∧ j ≤ p + 1 ∧ s = .int .i64 (toK ps tg j) ∧ wx = w3.drewN q) (fun _ i _ => p + 1 - (intOf i).toNat)
            case atStart => exact ⟨0, 0, rfl, Nat.zero_le _, rfl, rfl⟩
            case round =>
              obtain ⟨j, q, rfl, hjp, rfl, rfl⟩ := hrel
              have hbd2 := toK_bd ps tg j
              by_cases hlt3 : j < p + 1
              · obtain ⟨z, hz⟩ : ∃ z, bpos ps j = z := ⟨_, rfl⟩
                obtain ⟨_, _, hq1, _, _, d0⟩ := (HS3.out.drewN q).o5.at (by rw [posL_len, HP.out]) j hlt3 (z : Int) (by rw [posL_at HBP.out (by rw [HP.out]; omega), hz])
                obtain ⟨_, _, hq2, _, _, d1⟩ := (HS3.out.drewN q).o5.at (by rw [posL_len, HP.out]) (t + 1) (by omega) (e : Int) (by rw [posL_at HBP.out (by rw [HP.out]; omega), HEe.out])
                simp at hq1 hq2
                obtain ⟨rfl, rfl⟩ := hq1
                obtain ⟨rfl, _⟩ := hq2
                have d2 : (w3.drewN q).cell? ⟨g, t * 2 + 1, none⟩ = some (.int .i64 x.arg) := C1.out
                have a1 : IntKind.i64.wrap ((t : Int) + 1) = (t : Int) + 1 := IntWalk.i64_in _ (by omega)
                have a2 : (0 : Int) ≤ (t : Int) + 1 := by omega
                have a3 : ((t : Int) + 1).toNat = t + 1 := by omega
                have a4 : (t : Int) + 1 < ((p + 1 : Nat) : Int) := by omega
                have a5 : (t : Int) + 1 < (p : Int) + 1 := by omega
                have a6 : (j : Int) < ((p + 1 : Nat) : Int) := by omega
                have a7 : (j : Int) < (p : Int) + 1 := by omega
                have a8 : (0 : Int) ≤ (j : Int) := by omega
                have HTS : Hid (toK ps tg (j + 1) = if (z : Int) = tg then (j : Int) else toK ps tg j) := Lib.hid (by rw [toK, hz])
                obtain ⟨T, hT⟩ : ∃ T, toK ps tg j = T := ⟨_, rfl⟩
                rw [hT] at HTS
                rw [hT]
                clear hz hT hbd2
                obtain ⟨W, hWq⟩ : ∃ W, w3.drewN q = W := ⟨_, rfl⟩
                have HWQ := Lib.hid hWq
                rw [hWq] at d0 d1 d2
                rw [hWq]
                clear hWq
                by_cases hq : (z : Int) = tg
                · have h1 : ((z : Int) == tg) = true := by simpa using hq
                  have HT2 : Hid (toK ps tg (j + 1) = (j : Int)) := Lib.hid (by rw [HTS.out, if_pos hq])
                  clear hq
                  go_wp2_with fail
                  go_quiet (fail)
                  clear a1 a2 a3 a4 a5 a6 a7 a8
                  go_wp2_with fail
                  go_roundw
                  case rel => exact ⟨j + 1, q + nq, by go_num, by omega, by rw [HT2.out], by rw [← HWQ.out, World.drewN_drewN]⟩
                  case measure => simp [intOf]; omega
                · have h1 : ((z : Int) == tg) = false := by simpa using hq
                  have HT2 : Hid (toK ps tg (j + 1) = T) := Lib.hid (by rw [HTS.out, if_neg hq])
                  clear hq
                  go_wp2_with fail
                  go_quiet (fail)
                  clear a1 a2 a3 a4 a5 a6 a7 a8
                  go_wp2_with fail
                  go_roundw
                  case rel => exact ⟨j + 1, q + nq, by go_num, by omega, by rw [HT2.out], by rw [← HWQ.out, World.drewN_drewN]⟩
                  case measure => simp [intOf]; omega
              · have hjp1 : j = p + 1 := by omega
                subst hjp1
                rw [← HTP.out]
                rw [← HTP.out] at hbd2
                by_cases hneg : toP ps t < 0
                · have HE : Hid (disP b = .inl 5) := Lib.hid (disP_bad (by rw [HN.out]; exact HDA.out) (toP_none (fun p hp => (HONE.out p hp).1) htl (by rw [HX.out]; exact HJ.out) hneg))
                  obtain ⟨T, hT⟩ : ∃ T, toP ps t = T := ⟨_, rfl⟩
                  rw [hT] at hneg
                  rw [hT]
                  clear hT
                  go_wp2_with fail
                  go_ret2
                  exact disOut_err HE.out (HS3.out.drewN q).bl
                · obtain ⟨r, hr⟩ : ∃ r : Nat, toP ps t = (r : Int) := ⟨(toP ps t).toNat, by omega⟩
                  have HSQ := Lib.hid ((HS3.out.drewN q).yes HP.out htl (by rw [HX.out]; exact HJ.out) hr)
                  have hrp : r < p + 1 := by omega
                  rw [hr]
                  have d1 := (HS3.out.drewN q).ct.cell r
                  rw [rowF_at (by rw [HP.out]; exact hrp)] at d1
                  have d2 := (HS3.out.drewN q).ct.fr r
                  have hcb := cntK_bd ps t r
                  obtain ⟨N, hN⟩ : ∃ N, cntK ps t r = N := ⟨_, rfl⟩
                  rw [hN] at d1 hcb HSQ
                  have hwN : IntKind.i64.wrap (N + 1) = N + 1 := IntWalk.i64_in _ (by omega)
                  obtain ⟨e0, e00, e1⟩ := (HS3.out.drewN q).o4.cells (by rw [mixR_len, HP.out]) t (by rw [mixR_len]; exact htl)
                  have hgC : ¬ g = C := by have := HS3.out.l4 g (by simp [Value.ownBlock]); omega
                  have hCg : ¬ C = g := fun h => hgC h.symm
                  have c1' : (w3.drewN q).cell? ⟨g, t * 2 + 1, none⟩ = some (.int .i64 x.arg) := C1.out
                  have b1 : (r : Int) < ((p + 1 : Nat) : Int) := by omega
                  have b2 : (r : Int) < (p : Int) + 1 := by omega
                  have b3 : (0 : Int) ≤ (r : Int) := by omega
                  obtain ⟨W, hWq⟩ : ∃ W, w3.drewN q = W := ⟨_, rfl⟩
                  clear e0 e00
                  rw [hWq] at d1 d2 e1 c1' HSQ
                  rw [hWq]
                  clear hN hr hneg hbd2 hWq
                  go_wp2_with fail
                  exact ⟨⟨t + 1, by go_num, by omega, HSQ⟩, by simp [intOf]; omega⟩
        · obtain rfl : p = t := by omega
          have HRS : Hid (resD ps ps 0 = some (mixR ps ps.length)) := Lib.hid (resD_mix (fun p hp => (HONE.out p hp).1) (fun i hi hj => HS.out.ok i (by rw [← HP.out]; exact hi) hj))
          obtain ⟨rs, hrs⟩ : ∃ rs, mixR ps ps.length = rs := ⟨_, rfl⟩
          have hrl : rs.length = p := by rw [← hrs, mixR_len, HP.out]
          have HRL := Lib.hid hrl
          have hok := decAll_ok _ _ _ HDA.out
          have hrok : RsOk rs := res_rsok hok.1 (by rw [HRS.out, hrs])
          have HROK := Lib.hid hrok
          have HCA : Hid (∀ q, 0 < cntK ps p q ↔ askI rs q = true) := Lib.hid (fun q => by rw [← hrs, ← HP.out]; exact cnt_ask ps q)
          have HOUT : Hid (disP b = .inr (buildN rs)) := Lib.hid (by
            unfold disP
            rw [HN.out, HDA.out]
            simp only [HRS.out, hrs])
          have HCS : Hid (CtSt w wr k C ps (.slice va p vc) (.slice (some ⟨g8, 0, none⟩) (p + 1) c8) p) := HS
          have HO4 : Hid (OwI wr w.heap.size (.slice va p vc) rs) := Lib.hid (by have := HS.out.o4; rw [← hrs, HP.out]; exact this)
          have HRW : Hid (∀ x ∈ rs, InW x) := Lib.hid (by
            intro x hx
            rw [← hrs] at hx
            obtain ⟨i, hi, rfl⟩ := List.getElem_of_mem hx
            rw [mixR_len] at hi
            have h5 := mixR_at (k := ps.length) hi
            rw [if_pos hi, List.getElem?_eq_getElem (by rw [mixR_len]; exact hi)] at h5
            rw [Option.some.inj h5]
            have h6 := (HONE.out ps[i] (List.getElem_mem hi)).2
            unfold resF
            rw [psAt_get hi]
            split
            · refine ⟨h6.1.1, ?_⟩
              have := toK_bd ps (tgD ps i (psAt ps i)) (ps.length + 1)
              show Wf (toP ps i)
              unfold Wf toP
              rw [HP.out] at this ⊢
              omega
            · exact h6.1)
          have HB2 := Lib.hid HS.out.bl
          clear hrs hrl hok hrok HS
          obtain ⟨D, hD⟩ : ∃ D, wr.heap.size = D := ⟨_, rfl⟩
          have HDD := Lib.hid hD
          obtain ⟨wq, rfl⟩ : ∃ wq : World, wq = wr := ⟨_, rfl⟩
          obtain ⟨i0, hi, hz1', hz2', hz3'⟩ := info_parts Tryd.infoIns
          clear hD
          go_wp2_with fail
          go_loopw [14, 15] (fun v i wz => ∃ (q : Nat) (L : List IN), i = .int .i64 q ∧ q ≤ p + 1 ∧ L.length ≤ 2 * q ∧ Hid (OwI wz D v L) ∧ Hid (Below D wq wz) ∧ D ≤ wz.heap.size ∧ Hid (LabSt rs q L)) (fun _ i _ => p + 1 - (intOf i).toNat)
          case atStart => exact ⟨0, [], rfl, Nat.zero_le _, by simp, Lib.hid (OwI.nil _ _), Lib.hid (Below.refl _ _), by rw [HDD.out]; exact Nat.le_refl _, Lib.hid (labSt_zero rs)⟩
          case round =>
            obtain ⟨q, L, rfl, hq, hLq, HO, HB, hzD, HL⟩ := hrel
            by_cases hlt3 : q < p + 1
            · have HCr := Lib.hid (HCS.out.below (by rw [HDD.out]; exact HB.out))
              have d1 := HCr.out.ct.cell q
              rw [rowF_at (by rw [HP.out]; exact hlt3)] at d1
              have hca := HCA.out q
              obtain ⟨N, hN⟩ : ∃ N, cntK ps p q = N := ⟨_, rfl⟩
              rw [hN] at d1 hca
              have b1 : (q : Int) < ((p + 1 : Nat) : Int) := by omega
              have b2 : (q : Int) < (p : Int) + 1 := by omega
              have b3 : (0 : Int) ≤ (q : Int) := by omega
              obtain ⟨va2, vc2, hv2⟩ := ow_shape HO.out
              obtain ⟨m, hm⟩ : ∃ m, L.length = m := ⟨_, rfl⟩
              have HM := Lib.hid hm
              rw [hm] at hv2 hLq
              subst hv2
              have HO2 : Hid (wr.ownsRow D 37 2 (.slice va2 m vc2) m ((L.map insC).flatten)) := Lib.hid (by have := HO.out; unfold OwI at this; rw [hm] at this; exact this)
              have hbd2 : m + 1 ≤ maxLen ∧ (m + 1) * 16 ≤ 140737488355328 ∧ m + 1 + 1 ≤ maxLen ∧ (m + 1 + 1) * 16 ≤ 140737488355328 := by unfold maxLen; omega
              clear hN hm
              by_cases hqp : q < p
              · have hql : q < rs.length := by rw [HRL.out]; exact hqp
                obtain ⟨x, hx⟩ : ∃ x, rs[q] = x := ⟨_, rfl⟩
                obtain ⟨g, c', hg1, hg2, hg3, c0, c1⟩ := HO4.out.at HRL.out q hqp x (by rw [List.getElem?_eq_getElem hql, hx])
                simp at hg1
                obtain ⟨rfl, rfl⟩ := hg1
                rw [HDD.out] at hg3
                have C0 := Lib.hid c0
                have C1 := Lib.hid c1
                have HLS : Hid (LabSt rs (q + 1) (L ++ labIf rs q ++ [x])) := Lib.hid (by rw [← hx]; exact labSt_step HROK.out hql HL.out)
                have b4 : (q : Int) < (p : Int) := by omega
                clear hx c0 c1
                cases ha : askI rs q with
                | true =>
                  have hNp : 0 < N := hca.2 ha
                  have HLI : Hid (labIf rs q = [(⟨38, (q : Int)⟩ : IN)]) := Lib.hid (by unfold labIf; rw [if_pos ha])
                  clear hca ha
                  go_wp2_with (first
                    | (at_builtin; refine wpList_append_own _ rfl _ _ 22 rfl D 37 i0 (.agg #[.int .i64 0, .int .i64 0]) 2 16 Tryd.underlying22 hi hz1' hz2' hz3' rfl (by decide) (.slice a5 (m + 1) c5) (m + 1) (((L ++ [(⟨38, (q : Int)⟩ : IN)]).map insC).flatten) rfl (ow_below HO6.out (bl_one w5 _)) ⟨w5.heap.size, 0, none⟩ 1 1 (insC x) rfl rfl (news_lit w5 (insC x) _) (insC_one _) hbd2.2.2.1 hbd2.2.2.2 (by simp; omega) ?_; intro v7 w7 hown7 hgrow7 _; have HO7 := Lib.hid (OwI.snoc (L := L ++ [(⟨38, (q : Int)⟩ : IN)]) (x := x) (by rw [List.length_append, HM.out]; exact hown7)); have HB7 := Lib.hid ((HB5.out.alloc hz5 _).grown hgrow7 (by simp; omega) (fun j hj => ow_lo HO6.out j hj)); have hz7 : D ≤ w7.heap.size := (by have := HB7.out.size; rw [HDD.out] at this; exact this); clear hown7 hgrow7)
                    | (at_builtin; refine wpList_append_own _ rfl _ _ 22 rfl D 37 i0 (.agg #[.int .i64 0, .int .i64 0]) 2 16 Tryd.underlying22 hi hz1' hz2' hz3' rfl (by decide) (.slice va2 m vc2) m ((L.map insC).flatten) rfl (ow_below HO2.out (bl_one wr _)) ⟨wr.heap.size, 0, none⟩ 1 1 (insC (⟨38, (q : Int)⟩ : IN)) rfl rfl (news_lit wr (insC (⟨38, (q : Int)⟩ : IN)) _) (insC_one _) hbd2.1 hbd2.2.1 (by simp; omega) ?_; intro v5 w5 hown5 hgrow5 _; obtain ⟨a5, c5, rfl⟩ := ow_shape hown5; have HO5 := Lib.hid (OwI.snoc (L := L) (x := (⟨38, (q : Int)⟩ : IN)) (by rw [HM.out]; exact hown5)); have HO6 : Hid (w5.ownsRow D 37 2 (.slice a5 (m + 1) c5) (m + 1) (((L ++ [(⟨38, (q : Int)⟩ : IN)]).map insC).flatten)) := Lib.hid (by have := HO5.out; unfold OwI at this; rw [List.length_append, HM.out] at this; exact this); have HB5 := Lib.hid ((HB.out.alloc hzD _).grown hgrow5 (by simp; omega) (fun j hj => ow_lo HO2.out j hj)); have hz5 : D ≤ w5.heap.size := (by have := HB5.out.size; rw [HDD.out] at this; exact this); have c0 := (HB5.out.cell (p := ⟨g, q * 2, none⟩) hg3).trans C0.out; have c1 := (HB5.out.cell (p := ⟨g, q * 2 + 1, none⟩) hg3).trans C1.out; clear hown5 hgrow5)
                    | (fail))
                  go_roundw
                  case rel => exact ⟨q + 1, L ++ [(⟨38, (q : Int)⟩ : IN)] ++ [x], by go_num, by omega, by simp [HM.out] <;> omega, HO7, HB7, hz7, Lib.hid (by have := HLS.out; rw [HLI.out] at this; exact this)⟩
                  case measure => simp [intOf]; omega
                | false =>
                  have hNp : ¬ 0 < N := fun h => by rw [hca.1 h] at ha; cases ha
                  have HLI : Hid (labIf rs q = []) := Lib.hid (by unfold labIf; rw [if_neg (by simp [ha])])
                  have c0 := (HB.out.cell (p := ⟨g, q * 2, none⟩) hg3).trans C0.out
                  have c1 := (HB.out.cell (p := ⟨g, q * 2 + 1, none⟩) hg3).trans C1.out
                  clear hca ha
                  go_wp2_with (at_builtin; refine wpList_append_own _ rfl _ _ 22 rfl D 37 i0 (.agg #[.int .i64 0, .int .i64 0]) 2 16 Tryd.underlying22 hi hz1' hz2' hz3' rfl (by decide) (.slice va2 m vc2) m ((L.map insC).flatten) rfl (ow_below HO2.out (bl_one wr _)) ⟨wr.heap.size, 0, none⟩ 1 1 (insC x) rfl rfl (news_lit wr (insC x) _) (insC_one _) hbd2.1 hbd2.2.1 (by simp; omega) ?_; intro v5 w5 hown5 hgrow5 _; have HO5 := Lib.hid (OwI.snoc (L := L) (x := x) (by rw [HM.out]; exact hown5)); have HB5 := Lib.hid ((HB.out.alloc hzD _).grown hgrow5 (by simp; omega) (fun j hj => ow_lo HO2.out j hj)); have hz5 : D ≤ w5.heap.size := (by have := HB5.out.size; rw [HDD.out] at this; exact this); clear hown5 hgrow5)
                  go_roundw
                  case rel => exact ⟨q + 1, L ++ [x], by go_num, by omega, by simp [HM.out] <;> omega, HO5, HB5, hz5, Lib.hid (by have := HLS.out; rw [HLI.out, List.append_nil] at this; exact this)⟩
                  case measure => simp [intOf]; omega
              · obtain rfl : q = p := by omega
                have HLS : Hid (LabSt rs (q + 1) (L ++ labIf rs q)) := Lib.hid (by have := HL.out; rw [← HRL.out] at this ⊢; exact labSt_last this)
                cases ha : askI rs q with
                | true =>
                  have hNp : 0 < N := hca.2 ha
                  have HLI : Hid (labIf rs q = [(⟨38, (q : Int)⟩ : IN)]) := Lib.hid (by unfold labIf; rw [if_pos ha])
                  clear hca ha
                  go_wp2_with (at_builtin; refine wpList_append_own _ rfl _ _ 22 rfl D 37 i0 (.agg #[.int .i64 0, .int .i64 0]) 2 16 Tryd.underlying22 hi hz1' hz2' hz3' rfl (by decide) (.slice va2 m vc2) m ((L.map insC).flatten) rfl (ow_below HO2.out (bl_one wr _)) ⟨wr.heap.size, 0, none⟩ 1 1 (insC (⟨38, (q : Int)⟩ : IN)) rfl rfl (news_lit wr (insC (⟨38, (q : Int)⟩ : IN)) _) (insC_one _) hbd2.1 hbd2.2.1 (by simp; omega) ?_; intro v5 w5 hown5 hgrow5 _; have HO5 := Lib.hid (OwI.snoc (L := L) (x := (⟨38, (q : Int)⟩ : IN)) (by rw [HM.out]; exact hown5)); have HB5 := Lib.hid ((HB.out.alloc hzD _).grown hgrow5 (by simp; omega) (fun j hj => ow_lo HO2.out j hj)); have hz5 : D ≤ w5.heap.size := (by have := HB5.out.size; rw [HDD.out] at this; exact this); clear hown5 hgrow5)
                  go_roundw
                  case rel => exact ⟨q + 1, L ++ [(⟨38, (q : Int)⟩ : IN)], by go_num, by omega, by simp [HM.out] <;> omega, HO5, HB5, hz5, Lib.hid (by have := HLS.out; rw [HLI.out] at this; exact this)⟩
                  case measure => simp [intOf] <;> omega
                | false =>
                  have hNp : ¬ 0 < N := fun h => by rw [hca.1 h] at ha; cases ha
                  have HLI : Hid (labIf rs q = []) := Lib.hid (by unfold labIf; rw [if_neg (by simp [ha])])
                  clear hca ha
                  go_wp2_with fail
                  go_roundw
                  case rel => exact ⟨q + 1, L, by go_num, by omega, by rw [HM.out]; omega, HO, HB, hzD, Lib.hid (by have := HLS.out; rw [HLI.out, List.append_nil] at this; exact this)⟩
                  case measure => simp [intOf] <;> omega
            · have hqp : q = p + 1 := by omega
              subst hqp
              have hLe := labSt_end (rs := rs) (L := L) (by have := HL.out; rw [← HRL.out] at this; exact this)
              have hnl := norm_lab HROK.out (id_inj rs)
              have hon := once_lab HROK.out (id_inj rs)
              rw [← hLe] at hnl hon
              have HNR : Hid (normR L = buildN rs) := Lib.hid (by rw [← norm_same L hon]; exact hnl)
              have HLW : Hid (∀ x ∈ L, InW x) := Lib.hid (by
                rw [hLe]
                refine lab_inw HROK.out HRW.out (by rw [HRL.out]; omega))
              have HBw : Hid (Below w.heap.size w wr) := Lib.hid (HB2.out.trans (HB.out.mono (by rw [← HDD.out]; exact HB2.out.size)))
              have HRd := Lib.hid (OwI.reads HO.out (by unfold maxLen; omega) HLW.out)
              have HRN := Lib.hid (refNormC _ L wr HRd.out (by omega))
              clear hLe hnl hon
              go_wp2_with fail
              refine HRN.out.mono ?_
              rintro e w9 ⟨v9, rfl, ho9, hb9, _⟩
              rw [HNR.out] at ho9
              have hsz9 := HBw.out.size
              have HO9 := Lib.hid ho9
              clear ho9
              go_wp2_with fail
              go_ret2
              refine disOut_ok HOUT.out (bl_thenA HBw.out hb9) ?_
              refine ⟨HO9.out.1, ?_⟩
              rcases HO9.out.2 with h0 | ⟨g, cap, cur, e, hbg, r⟩
              · exact .inl h0
              · exact .inr ⟨g, cap, cur, e, by omega, r⟩
end Go.Proofs.YtbcpopakdlplgaaDoor
