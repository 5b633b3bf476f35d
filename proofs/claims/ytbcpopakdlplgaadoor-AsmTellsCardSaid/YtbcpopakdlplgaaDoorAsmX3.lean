/- Contract of asm.Disassemble. -/
import Derived.Test.YtbcpopakdlplgaaDoorAsmX
import Derived.RegionTactic
import Derived.BigRegion
namespace Go.Proofs.YtbcpopakdlplgaaDoor
open Go.RowKit Go.PlainAid Go.Maps
set_option linter.unusedVariables false
set_option linter.unusedSimpArgs false

set_option maxRecDepth 100000 in
set_option maxHeartbeats 8000000 in
theorem disC (v : Value) (b : List UInt8) (w : World) (hr : Reads Cd.byte.seq w v b) (hl : b.length ≤ 4000) :
    Calls Tryd.prog 16 #[v] w fun e w' => DisOut w (disP b) e w' := by
  obtain ⟨a, c, hv, hcap, _⟩ := hr.len
  subst hv
  have HR := Lib.hid hr
  obtain ⟨n, hn⟩ : ∃ n, b.length = n := ⟨_, rfl⟩
  have HN := Lib.hid hn
  rw [hn] at hl hcap HR ⊢
  clear hr hn
  have hmm := @run_makeMap Tryd.prog
  obtain ⟨w1, hrun1, hm1, hg1⟩ := (MetB.new w).update (by unfold maxLen; omega) (a := (n : Int)) (by unfold Wf; omega) true
  have HM1 := Lib.hid (begK_zero n _ hm1)
  have HB1 : Hid (Below w.heap.size w w1) := Lib.hid ((bl_one w _).grown hg1 (bl_one w _).size (fun j hj => by cases hj; exact Nat.le_refl _))
  have hz1 : w.heap.size + 1 ≤ w1.heap.size := by have := hg1.size; simpa using this
  clear hm1 hg1
  go_enter Tryd.func16, Tryd.ntmps16
  go_wp2_with fail
  go_loopw [4, 5, 7] (fun v4 v5 i wr => ∃ (ps : List (IN × Nat)) (k f : Nat), i = .int .i64 k ∧ k ≤ n ∧ Hid (RdSt w wr b n ps k f v4 v5)) (fun _ _ i _ => n - (intOf i).toNat)
  case atStart => exact ⟨[], 0, n, rfl, Nat.zero_le _, Lib.hid ⟨by rw [List.drop_zero, preA_nil], rfl, by omega, by simp, fun p h => (by cases h), HM1.out, OwI.nil _ _, OwN.nil _ _, fun j h => (by cases h), HB1.out, hz1⟩⟩
  case round =>
    obtain ⟨ps, k, f, rfl, hk, HS⟩ := hrel
    by_cases hlt : k < n
    · have hk0 : (0 : Int) ≤ (k : Int) := by omega
      have HDC := Lib.hid (fun wx h => decC (.slice a n c) b k wx h (by rw [HN.out]; exact hlt) (by rw [HN.out]; omega))
      have HRr := Lib.hid (HR.out.below HS.out.bl)
      cases hd : decI (b.drop k) with
      | inl e =>
        rw [hd] at HDC
        have hne := dec_err_pos hd
        have hne2 : (e != 0) = true := by simpa using hne
        have HE : Hid (disP b = .inl e) := Lib.hid (disP_err (n := n) (by
          rw [HN.out, ← HS.out.eq]
          obtain ⟨f', rfl⟩ : ∃ f', f = f' + 1 := ⟨f - 1, by have := HS.out.fuel; omega⟩
          rw [dec_step_no hd (by rw [List.length_drop, HN.out]; omega)]; rfl))
        clear hd
        go_wp2_with (go_at_call 20; refine (HDC.out _ HRr.out).mono ?_; rintro e' w2 ⟨rfl, hb2⟩; unfold decV)
        go_ret2
        exact disOut_err HE.out (bl_a (bl_thenA HS.out.bl hb2) _)
      | inr q =>
        obtain ⟨x, m⟩ := q
        have hok := dec_ok hd
        have hmn : k + m ≤ n := by have := hok.2.2.2.2.1; rw [List.length_drop, HN.out] at this; omega
        have hm1 : 1 ≤ m := hok.2.2.1
        have hwx : InW x := ⟨by have := hok.1; unfold opOk at this; unfold Wf; omega, by have := hok.2.1; unfold Wf; omega⟩
        have HWX := Lib.hid hwx
        have HAR := Lib.hid hok.2.1
        have HEQ : Hid (preA (ps ++ [(x, m)]) (decAll (f - 1) (b.drop (k + m))) = decAll n b ∧ n ≤ (f - 1) + (k + m)) := Lib.hid (by
          have hf := HS.out.fuel
          refine ⟨?_, by omega⟩
          rw [← HS.out.eq]
          obtain ⟨f', rfl⟩ : ∃ f', f = f' + 1 := ⟨f - 1, by omega⟩
          rw [dec_step_ok hd, preA_app, List.drop_drop]; rfl)
        rw [hd, show decV (.inr (x, m)) k = .tuple #[.agg #[.int .i64 x.op, .int .i64 x.arg], .int .i64 ((k + m : Nat) : Int), .int .i64 0] from rfl] at HDC
        obtain ⟨z, hz⟩ : ∃ z, k + m = z := ⟨_, rfl⟩
        have HZ := Lib.hid hz
        rw [hz] at HDC hmn HEQ
        obtain ⟨va, vc, hv4⟩ := ow_shape HS.out.o4
        obtain ⟨ea, ec, hv5⟩ := ow_shape HS.out.o5
        rw [List.length_map] at hv4
        rw [ends_len] at hv5
        subst hv4
        subst hv5
        obtain ⟨p, hp⟩ : ∃ p, ps.length = p := ⟨_, rfl⟩
        have HP := Lib.hid hp
        rw [hp] at HS ⊢
        have hpk : p ≤ k := by rw [← hp]; exact HS.out.cnt
        have HO4 : Hid (wr.ownsRow (w.heap.size + 1) 37 2 (.slice va p vc) p (((ps.map (·.1)).map insC).flatten)) := Lib.hid (by have := HS.out.o4; unfold OwI at this; rw [List.length_map, hp] at this; exact this)
        have HO5 : Hid (wr.ownsRow (w.heap.size + 1) 3 1 (.slice ea p ec) p ((endsGo ps 0).map (Value.int .i64))) := Lib.hid (by have := HS.out.o5; unfold OwN at this; rw [ends_len, hp] at this; exact this)
        obtain ⟨i0, hi, hz1', hz2', hz3'⟩ := info_parts Tryd.infoIns
        obtain ⟨j0, hj, hy1', hy2', hy3'⟩ := info_parts Tryd.infoInt
        have hbd : p + 1 ≤ maxLen ∧ (p + 1) * 16 ≤ 140737488355328 ∧ (p + 1) * 8 ≤ 140737488355328 := by unfold maxLen; omega
        have hsz := HS.out.sz
        clear hd hok hz hp hwx
        go_wp2_with (first
          | (go_at_call 20; refine (HDC.out _ HRr.out).mono ?_; rintro e' w2 ⟨rfl, hb2⟩; have HB2 := Lib.hid hb2; obtain ⟨w4, hrun4, hm4, hg4⟩ := (HS.out.met.below (bl_a hb2 (.cells #[.int .i64 x.op, .int .i64 x.arg] 37))).update (by have := HP.out; unfold maxLen; omega) (a := (k : Int)) (by unfold Wf; omega) true; have HM4 := Lib.hid hm4; have HG4 := Lib.hid hg4; have hk4 := (BK.new w2 [.int .i64 x.op, .int .i64 x.arg] 37).kept hg4 (fun j hj => by cases hj; have := HB2.out.size; omega); have z0 := hk4.cell 0; have z1 := hk4.cell 1; simp only [List.getElem?_cons_zero, List.getElem?_cons_succ] at z0 z1; have HZ4 : Hid (wr.heap.size + 1 ≤ w4.heap.size) := Lib.hid (by have h1 := hb2.size; have h2 := hg4.size; rw [World.size_alloc] at h2; omega); clear hb2 hm4 hg4 hk4)
          | (at_builtin; refine wpList_append_lies rfl _ _ 22 rfl (w.heap.size + 1) 37 i0 (.agg #[.int .i64 0, .int .i64 0]) 2 16 Tryd.underlying22 hi hz1' hz2' hz3' rfl (by decide) (.slice va p vc) p (((ps.map (·.1)).map insC).flatten) rfl (ow_below (ow_grown (ow_below HO4.out (bl_a HB2.out _)) HG4.out (fun j hj => by cases hj; omega)) (bl_one w4 _)) ⟨w4.heap.size, 0, none⟩ 1 1 (insC x) rfl rfl (news_lit w4 (insC x) _) (insC_one _) (by decide) hbd.1 hbd.2.1 (by have := HZ4.out; simp; omega) _ rfl ?_; intro g6 c6 w6 hown6 hgrow6 hat6 hlt6; have HO6 := Lib.hid (OwI.snoc (L := ps.map (·.1)) (x := x) (by rw [List.length_map, HP.out]; exact hown6)); have HG6 := Lib.hid hgrow6; have HAT6 := Lib.hid hat6; clear hown6 hgrow6 hat6)
          | (at_builtin; refine wpList_append_lies rfl _ _ 50 rfl (w.heap.size + 1) 3 j0 (.int .i64 0) 1 8 Tryd.underlying50 hj hy1' hy2' hy3' rfl (by decide) (.slice ea p ec) p ((endsGo ps 0).map (Value.int .i64)) rfl (ow_below (ow_apart (ow_below (ow_grown (ow_below HO5.out (bl_a HB2.out _)) HG4.out (fun j hj => by cases hj; omega)) (bl_one w4 _)) HG6.out (fun j hj => HS.out.ap j hj)) (bl_one w6 _)) ⟨w6.heap.size, 0, none⟩ 1 1 [.int .i64 (z : Int)] rfl rfl (news_lit w6 [.int .i64 (z : Int)] _) (ow_one rfl) (by decide) hbd.1 hbd.2.2 (by have := HZ4.out; have := HG6.out.size; rw [World.size_alloc] at this; simp; omega) _ rfl ?_; intro g8 c8 w8 hown8 hgrow8 hat8 hlt8; have HO8 := Lib.hid hown8; have HG8 := Lib.hid hgrow8; have HAT8 := Lib.hid hat8; clear hown8 hgrow8 hat8)
          | (fail))
        go_roundw
        case rel => exact ⟨ps ++ [(x, m)], z, f - 1, rfl, hmn, Lib.hid (rd_step HS.out HB2.out HG4.out HM4.out HO6.out HG6.out HAT6.out hlt6 HP.out HO8.out HG8.out HAT8.out HEQ.out HZ.out hm1 HWX.out HAR.out)⟩
        case measure => have := HZ.out; simp [intOf]; omega
    · have hkn : k = n := by omega
      subst hkn
      have HDA : Hid (decAll k b = .inr ps) := Lib.hid (by
        have := HS.out.eq
        rw [List.drop_of_length_le (by rw [HN.out]; exact Nat.le_refl _), decAll_nil] at this
        simpa [preA] using this.symm)
      have HBP : Hid (bpos ps ps.length = k) := Lib.hid HS.out.pos
      have HONE : Hid (∀ p ∈ ps, 1 ≤ p.2 ∧ InW p.1 ∧ -32768 ≤ p.1.arg ∧ p.1.arg ≤ 32767) := Lib.hid HS.out.one
      have HA0 := Lib.hid (ask_start HS.out)
      have HAP := Lib.hid HS.out.ap
      obtain ⟨va, vc, hv4⟩ := ow_shape HS.out.o4
      obtain ⟨ea, ec, hv5⟩ := ow_shape HS.out.o5
      rw [List.length_map] at hv4
      rw [ends_len] at hv5
      subst hv4
      subst hv5
      have hpk : ps.length ≤ k := HS.out.cnt
      obtain ⟨p, hp⟩ : ∃ p, ps.length = p := ⟨_, rfl⟩
      have HP := Lib.hid hp
      rw [hp] at hpk HA0 HAP ⊢
      obtain ⟨b1, hb1⟩ : ∃ b1, wr.heap.size = b1 := ⟨_, rfl⟩
      rw [hb1] at HA0
      have HB1' := Lib.hid hb1
      clear hp HS hb1
      go_wp2_with fail
      rw [HB1'.out]
      go_loopw [54] (fun i wz => ∃ t : Nat, i = .int .i64 t ∧ t ≤ p ∧ Hid (AskSt w wz k b1 ps (.slice va p vc) (.slice ea p ec) t)) (fun i _ => p - (intOf i).toNat)
      case atStart => exact ⟨0, rfl, Nat.zero_le _, HA0⟩
      case round =>
        obtain ⟨t, rfl, ht, HS⟩ := hrel
        by_cases hlt2 : t < p
        · have htl : t < ps.length := by rw [HP.out]; exact hlt2
          obtain ⟨x, hx⟩ : ∃ x, ps[t].1 = x := ⟨_, rfl⟩
          obtain ⟨g, c', hg1, hg2, hg3, c0, c1⟩ := HS.out.o4.at (by rw [List.length_map, HP.out]) t hlt2 x (by rw [List.getElem?_map, List.getElem?_eq_getElem htl, Option.map_some, hx])
          simp at hg1
          obtain ⟨rfl, rfl⟩ := hg1
          have hends := ends_at ps 0 t htl
          rw [Nat.zero_add] at hends
          obtain ⟨e, he⟩ : ∃ e, bpos ps (t + 1) = e := ⟨_, rfl⟩
          have hek : e ≤ k := by rw [← he, ← HBP.out]; exact bpos_le ps (t + 1) (by omega)
          rw [he] at hends
          obtain ⟨ge, c'', hg4, hg5, hg6, c2⟩ := HS.out.o5.at (by rw [ends_len, HP.out]) t hlt2 (e : Int) (by rw [List.getElem?_eq_getElem (by rw [ends_len]; exact htl), hends])
          simp at hg4
          obtain ⟨rfl, rfl⟩ := hg4
          have hone := HONE.out ps[t] (List.getElem_mem htl)
          rw [hx] at hone
          have HW := Lib.hid hone.2.1
          have har := hone.2.2
          have htg : tgD ps t ps[t] = (e : Int) + x.arg := by unfold tgD; rw [he, hx]
          have HTG := Lib.hid htg
          have HX := Lib.hid hx
          have hk0 : (0 : Int) ≤ (t : Int) := by omega
          have hk1 : (t : Int) < (p : Int) := by omega
          clear hends he htg hx hone hg2 hg5
          cases hj : isJ x with
          | false =>
            have HA := Lib.hid (fun w => asksC2 x false hj w)
            have HS2 : Hid (∀ w', Below wr.heap.size wr w' → AskSt w w' k b1 ps (.slice (some ⟨g, 0, none⟩) p vc) (.slice (some ⟨ge, 0, none⟩) p ec) (t + 1)) := Lib.hid (fun w' hb => (HS.out.below hb).no htl (by rw [HX.out]; exact hj))
            clear hj c2
            go_wp2_with (go_at_call 23; refine (HA.out _).mono ?_; rintro e' w2 ⟨rfl, hb2⟩)
            go_roundw
            case rel => exact ⟨t + 1, by go_num, by omega, Lib.hid (HS2.out _ (bl_thenA (bl_one _ _) hb2))⟩
            case measure => simp [intOf]; omega
          | true =>
            have HA := Lib.hid (fun w => asksC2 x true hj w)
            have HJ := Lib.hid hj
            have C2 := Lib.hid c2
            clear hj c2
            go_wp2_with (go_at_call 23; refine (HA.out _).mono ?_; rintro e' w2 ⟨rfl, hb2⟩; have HB2 := Lib.hid (bl_thenA (bl_one wr (.cells #[.int .i64 x.op, .int .i64 x.arg] 37)) hb2); have HK2 := Lib.hid ((BK.new wr [.int .i64 x.op, .int .i64 x.arg] 37).below hb2); clear hb2)
            obtain ⟨tg, htg0⟩ : ∃ tg, (e : Int) + x.arg = tg := ⟨_, rfl⟩
            have hwr : IntKind.i64.wrap ((e : Int) + x.arg) = tg := by rw [← htg0]; exact IntWalk.i64_in _ (by omega)
            have hwt : Wf tg := by unfold Wf; omega
            have HWT := Lib.hid hwt
            rw [htg0] at HTG
            have HSW := Lib.hid (HS.out.below HB2.out)
            have c2 : w2.cell? ⟨ge, t, none⟩ = some (.int .i64 (e : Int)) := by rw [HB2.out.cell (p := ⟨ge, t, none⟩) hg6]; exact C2.out
            have k1 := HK2.out.cell 1
            simp only [List.getElem?_cons_zero, List.getElem?_cons_succ] at k1
            have HBK : Hid (begK k ps tg = (findB ps tg).isSome) := Lib.hid (by rw [← HBP.out]; exact begK_find)
            have hlk := (HSW.out.met.below ((Below.refl _ w2).drew)).look hwt
            clear htg0 hwt
            cases hf : begK k ps tg with
            | false =>
              have HE : Hid (disP b = .inl 5) := Lib.hid (disP_bad (by rw [HN.out]; exact HDA.out) (resD_none ps 0 t htl (by rw [HX.out]; exact HJ.out) (by
                have := HBK.out
                rw [hf] at this
                rw [Nat.zero_add, HTG.out]
                cases hq : findB ps tg with
                | none => rfl
                | some q => rw [hq] at this; cases this)))
              rw [hf] at hlk
              clear hf
              go_region_held3 (fun w' => w'.cell? ⟨ge, t, none⟩ = some (.int .i64 (e : Int)) ∧ w'.cell? ⟨wr.heap.size, 1, none⟩ = some (.int .i64 x.arg)) (first | (go_keep; done)) (fail)
              go_wp2
              go_ret2
              exact disOut_err HE.out HSW.out.bl.drew
            | true =>
              have HFS : Hid ((findB ps tg).isSome = true) := Lib.hid (by rw [← HBK.out]; exact hf)
              rw [hf] at hlk
              clear hf
              go_region_held3 (fun w' => w'.cell? ⟨ge, t, none⟩ = some (.int .i64 (e : Int)) ∧ w'.cell? ⟨wr.heap.size, 1, none⟩ = some (.int .i64 x.arg)) (first | (go_keep; done)) (fail)
              clear hlk
              obtain ⟨W2, hW2⟩ : ∃ W, w2.drew = W := ⟨_, rfl⟩
              have HSX : Hid (AskSt w W2 k b1 ps (.slice (some ⟨g, 0, none⟩) p vc) (.slice (some ⟨ge, 0, none⟩) p ec) t) := Lib.hid (by rw [← hW2]; exact HSW.out.below ((Below.refl _ w2).drew))
              have c2' : W2.cell? ⟨ge, t, none⟩ = some (.int .i64 (e : Int)) := by rw [← hW2]; exact c2
              have k1' : W2.cell? ⟨wr.heap.size, 1, none⟩ = some (.int .i64 x.arg) := by rw [← hW2]; exact k1
              have k2' := HSX.out.ka.cell 0
              simp only [List.getElem?_cons_zero] at k2'
              rw [hW2]
              clear hW2 c2 k1
              obtain ⟨w4, hrun4, hm4, hg4⟩ := (HSX.out.ma.below ((Below.refl _ W2).drew)).update (by unfold maxLen; omega) HWT.out true
              have HS4 := Lib.hid ((HSX.out.below ((Below.refl _ W2).drew)).yes htl (by rw [HX.out]; exact HJ.out) HTG.out HFS.out hg4 hm4)
              have hb0 := HSX.out.b0
              have hzW2 : wr.heap.size < W2.heap.size := lt_cell k1'
              have c4 : w4.cell? ⟨ge, t, none⟩ = some (.int .i64 (e : Int)) := (hg4.cell_far _ (lt_cell c2') (by have := HS.out.l5 ge (by simp [Value.ownBlock]); simp; omega)).trans c2'
              have c5 : w4.cell? ⟨wr.heap.size, 1, none⟩ = some (.int .i64 x.arg) := (hg4.cell_far _ (lt_cell k1') (by have := HS.out.ka.lt; simp; omega)).trans k1'
              have c7 := HS4.out.ka.cell 0
              simp only [List.getElem?_cons_zero] at c7
              clear hm4 hg4 hzW2 hb0
              go_wp2_with fail
              go_region_held3 (fun w' => w'.cell? ⟨ge, t, none⟩ = some (.int .i64 (e : Int)) ∧ w'.cell? ⟨wr.heap.size, 1, none⟩ = some (.int .i64 x.arg) ∧ w'.cell? ⟨b1 + 1, 0, none⟩ = some (.map (some b1))) (first | (go_keep; done) | trivial) (fail)
              go_wp2
              go_roundw
              case rel => exact ⟨t + 1, by go_num, by omega, HS4⟩
              case measure => simp [intOf]; omega
        · obtain rfl : p = t := by omega
          have HRS : Hid (∃ rs, resD ps ps 0 = some rs) := Lib.hid (resD_some ps 0 (fun i hi hj => by rw [Nat.zero_add]; exact HS.out.ok i hi (by have := HP.out; omega) hj))
          have HOUT : Hid (disP b = .inr (disB ps)) := Lib.hid (by
            obtain ⟨rs, hrs⟩ := HRS.out
            exact disP_good (by rw [HN.out]; exact HDA.out) hrs)
          have HL0 := Lib.hid (lay_start HP.out HS.out)
          obtain ⟨bO, hbO⟩ : ∃ bO, wr.heap.size = bO := ⟨_, rfl⟩
          have HBO := Lib.hid hbO
          rw [hbO] at HL0
          have hpb : bpos ps 0 = 0 := by cases ps <;> rfl
          have HPB := Lib.hid hpb
          clear hbO hpb HS
          go_wp2_with fail
          rw [HBO.out]
          go_loopw [17, 84] (fun u i wz => ∃ (t : Nat) (s : List IN × List (Int × Int)) (vo : Value), i = .int .i64 t ∧ t ≤ p ∧ u = .int .i64 (bpos ps t) ∧ Hid (LaySt w wz k b1 bO p ps (.slice va p vc) (.slice ea p ec) vo t s)) (fun _ i _ => p - (intOf i).toNat)
          case atStart => exact ⟨0, _, _, rfl, Nat.zero_le _, by rw [HPB.out]; rfl, HL0⟩
          case round =>
            obtain ⟨q, s, vo, rfl, hq, rfl, HL⟩ := hrel
            by_cases hlt3 : q < p
            · have hql : q < ps.length := by rw [HP.out]; exact hlt3
              obtain ⟨x, hx⟩ : ∃ x, ps[q].1 = x := ⟨_, rfl⟩
              obtain ⟨g, c', hg1, hg2, hg3, c0, c1⟩ := HL.out.o4.at (by rw [List.length_map, HP.out]) q hlt3 x (by rw [List.getElem?_map, List.getElem?_eq_getElem hql, Option.map_some, hx])
              simp at hg1
              obtain ⟨rfl, rfl⟩ := hg1
              have hends := ends_at ps 0 q hql
              rw [Nat.zero_add] at hends
              obtain ⟨e, he⟩ : ∃ e, bpos ps (q + 1) = e := ⟨_, rfl⟩
              have HEe := Lib.hid he
              have hek : e ≤ k := by rw [← he, ← HBP.out]; exact bpos_le ps (q + 1) (by omega)
              rw [he] at hends
              obtain ⟨ge, c'', hg4, hg5, hg6, c2⟩ := HL.out.o5.at (by rw [ends_len, HP.out]) q hlt3 (e : Int) (by rw [List.getElem?_eq_getElem (by rw [ends_len]; exact hql), hends])
              simp at hg4
              obtain ⟨rfl, rfl⟩ := hg4
              have hone := HONE.out ps[q] (List.getElem_mem hql)
              have HM1p := Lib.hid hone.1
              rw [hx] at hone
              have HW := Lib.hid hone.2.1
              have har := hone.2.2
              have HX := Lib.hid hx
              have hk0 : (0 : Int) ≤ (q : Int) := by omega
              have hk1 : (q : Int) < (p : Int) := by omega
              obtain ⟨pz, hpz⟩ : ∃ z, bpos ps q = z := ⟨_, rfl⟩
              have HPZ := Lib.hid hpz
              have hpk : pz ≤ k := by rw [← hpz, ← HBP.out]; exact bpos_le ps q (by omega)
              have hged : ge < bO := by have := HL.out.l5 ge (by simp [Value.ownBlock]); have := HL.out.ds.lt; omega
              have C2 := Lib.hid c2
              obtain ⟨W1, hW1⟩ : ∃ W, wr.alloc (.cells #[.int .i64 x.op, .int .i64 x.arg] 37) = W := ⟨_, rfl⟩
              have HD1 : Hid (DisSt W1 b1 bO p q (askPos ps ps 0) vo s) := Lib.hid (by rw [← hW1]; exact HL.out.ds.below (bl_one _ _))
              have HK1 : Hid (BK W1 wr.heap.size [.int .i64 x.op, .int .i64 x.arg] 37) := Lib.hid (by rw [← hW1]; exact BK.new wr _ _)
              have HB1w : Hid (Below bO wr W1) := Lib.hid (by rw [← hW1]; exact (Below.refl bO wr).alloc (by have := HL.out.ds.ko.lt; omega) _)
              have hsz1 : W1.heap.size = wr.heap.size + 1 := by rw [← hW1]; exact World.size_alloc _ _
              have HSZ1 := Lib.hid hsz1
              obtain ⟨s2, hs2⟩ : ∃ s2, labD (askPos ps ps 0) (pz : Int) s = s2 := ⟨_, rfl⟩
              have HS2 : Hid (labD (askPos ps ps 0) (bpos ps q : Int) s = s2) := Lib.hid (by rw [hpz]; exact hs2)
              obtain ⟨m2, hm2⟩ : ∃ m, s2.1.length = m := ⟨_, rfl⟩
              have hm2b : m2 ≤ 2 * q + 1 := by have := (lab_len1 (askPos ps ps 0) (pz : Int) s).1; rw [hs2] at this; have := HL.out.l1; omega
              have HM2 := Lib.hid hm2
              have HLB : Hid _ := Lib.hid (labelC W1 b1 bO p q (askPos ps ps 0) vo s (pz : Int) HD1.out (by rw [← hpz]; exact HL.out.keys) (by unfold Wf; omega) (by have := HL.out.l1; omega) (by have := HL.out.l2; omega) (by omega))
              rw [hs2] at HLB
              have HKW : Hid (Wf (s.2.length : Int)) := Lib.hid (by have := HL.out.l2; unfold Wf; omega)
              have hbO2 : bO + 2 < wr.heap.size := HL.out.ds.kn.lt
              have HHI : Hid (∀ j, vo.ownBlock = some j → j < wr.heap.size) := Lib.hid (fun j hj => (World.ownsRow.lt HL.out.ds.ow j hj).2)
              obtain ⟨i0, hi, hz1', hz2', hz3'⟩ := info_parts Tryd.infoIns
              have hbd : m2 + 1 ≤ maxLen ∧ (m2 + 1) * 16 ≤ 140737488355328 := by unfold maxLen; omega
              rw [hpz]
              clear hends he hx hone hg2 hg5 hpz c2 hs2 hm2 hsz1
              cases hj : isJ x with
              | false =>
                have HA := Lib.hid (fun w => asksC2 x false hj w)
                have HXD : Hid (x = xD ps[q] (e : Int)) := Lib.hid (by unfold xD; rw [HX.out, hj, if_neg (by decide)])
                clear hj
                go_wp2_with fail
                refine HLB.out.mono ?_
                rintro e' w2 ⟨rfl, vo2, hd2, hkp2, how2⟩
                obtain ⟨va2, vc2, hv2⟩ := ow_shape hd2.ow
                rw [HM2.out] at hv2
                subst hv2
                have HD2 := Lib.hid hd2
                have HKP2 := Lib.hid hkp2
                have HOW2 := Lib.hid how2
                have HK2 := Lib.hid (hkp2.2.2 _ _ _ HK1.out hbO2 (fun e => by have := HHI.out _ e; omega))
                have k0 := HK2.out.cell 0
                have k1 := HK2.out.cell 1
                simp only [List.getElem?_cons_zero, List.getElem?_cons_succ] at k0 k1
                clear hd2 hkp2 how2
                go_wp2_with fail
                refine (HA.out _).mono ?_
                rintro e' w3 ⟨rfl, hb3⟩
                have HB3 := Lib.hid hb3
                have HD3 := Lib.hid (HD2.out.below hb3)
                clear hb3 k0 k1
                have HO3 : Hid (w3.ownsRow (bO + 3) 37 2 (.slice va2 m2 vc2) m2 ((s2.1.map insC).flatten)) := Lib.hid (by have := HD3.out.ow; unfold OwI at this; rw [HM2.out] at this; exact this)
                have HBw3 : Hid (Below bO wr w3) := Lib.hid ((HB1w.out.trans HKP2.out.1).trans (HB3.out.mono (by have := HKP2.out.2.1; have := HSZ1.out; omega)))
                have o0 := HD3.out.cells.2.1
                have hz3 : wr.heap.size + 1 ≤ w3.heap.size := by have := HKP2.out.2.1; have := HSZ1.out; have := HB3.out.size; omega
                have k0 := (HK2.out.below HB3.out).cell 0
                have k1 := (HK2.out.below HB3.out).cell 1
                simp only [List.getElem?_cons_zero, List.getElem?_cons_succ] at k0 k1
                go_wp2_with (at_builtin; refine wpList_append_lies rfl _ _ 22 rfl (bO + 3) 37 i0 (.agg #[.int .i64 0, .int .i64 0]) 2 16 Tryd.underlying22 hi hz1' hz2' hz3' rfl (by decide) (.slice va2 m2 vc2) m2 ((s2.1.map insC).flatten) rfl (ow_below HO3.out (bl_one w3 _)) ⟨w3.heap.size, 0, none⟩ 1 1 (insC x) rfl rfl (news_lit w3 (insC x) _) (insC_one _) (by decide) hbd.1 hbd.2 (by simp; omega) _ rfl ?_; intro g5 c5 w5 hown5 hgrow5 hat5 hlt5; have HO5 := Lib.hid (OwI.snoc (L := s2.1) (x := x) (by rw [HM2.out]; exact hown5)); have HLO := Lib.hid (fun j hj => ow_lo HO3.out j hj); have hdA := HD3.out.below (bl_one w3 (.cells (insC x).toArray 37)); have D5 := Lib.hid (hdA.app hgrow5 HO5.out); have e0 := (hdA.ko.kept hgrow5 (fun j hj => by have := HLO.out j hj; omega)).cell 0; have e1 := (hdA.ko.kept hgrow5 (fun j hj => by have := HLO.out j hj; omega)).fr 0; simp only [List.getElem?_cons_zero] at e0; have HB6 : Hid (Below bO wr (w5.setCell ⟨bO, 0, none⟩ (.slice (some ⟨g5, 0, none⟩) (m2 + 1) c5))) := Lib.hid (((HBw3.out.alloc (by omega) (.cells (insC x).toArray 37)).grown hgrow5 (by simp; omega) (fun j hj => by have := HLO.out j hj; omega)).setCell (p := ⟨bO, 0, none⟩) (Nat.le_refl _) _); have c6 : (w5.setCell ⟨bO, 0, none⟩ (.slice (some ⟨g5, 0, none⟩) (m2 + 1) c5)).cell? ⟨ge, q, none⟩ = some (.int .i64 (e : Int)) := (HB6.out.cell (p := ⟨ge, q, none⟩) hged).trans C2.out; clear hdA hown5 hgrow5 hat5)
                go_roundw
                case rel => exact ⟨q + 1, (s2.1 ++ [x], s2.2), _, by go_num, by omega, by rw [HEe.out], Lib.hid (lay_step2 HL.out hql HXD.out HEe.out HM1p.out HS2.out D5.out HB6.out HW.out HKW.out)⟩
                case measure => simp [intOf]; omega
              | true =>
                have HA := Lib.hid (fun w => asksC2 x true hj w)
                have HXD : Hid (⟨x.op, x.arg + (e : Int)⟩ = xD ps[q] (e : Int)) := Lib.hid (by unfold xD; rw [HX.out, hj, if_pos rfl])
                clear hj
                go_wp2_with fail
                refine HLB.out.mono ?_
                rintro e' w2 ⟨rfl, vo2, hd2, hkp2, how2⟩
                obtain ⟨va2, vc2, hv2⟩ := ow_shape hd2.ow
                rw [HM2.out] at hv2
                subst hv2
                have HD2 := Lib.hid hd2
                have HKP2 := Lib.hid hkp2
                have HOW2 := Lib.hid how2
                have HK2 := Lib.hid (hkp2.2.2 _ _ _ HK1.out hbO2 (fun e => by have := HHI.out _ e; omega))
                have k0 := HK2.out.cell 0
                have k1 := HK2.out.cell 1
                simp only [List.getElem?_cons_zero, List.getElem?_cons_succ] at k0 k1
                clear hd2 hkp2 how2
                go_wp2_with fail
                refine (HA.out _).mono ?_
                rintro e' w3 ⟨rfl, hb3⟩
                have HB3 := Lib.hid hb3
                have HD3 := Lib.hid (HD2.out.below hb3)
                clear hb3 k0 k1
                have HBw3 : Hid (Below bO wr w3) := Lib.hid ((HB1w.out.trans HKP2.out.1).trans (HB3.out.mono (by have := HKP2.out.2.1; have := HSZ1.out; omega)))
                have hz3 : wr.heap.size + 1 ≤ w3.heap.size := by have := HKP2.out.2.1; have := HSZ1.out; have := HB3.out.size; omega
                have hK3 := HK2.out.below HB3.out
                have k1 := hK3.cell 1
                have k3 := hK3.fr 1
                simp only [List.getElem?_cons_zero, List.getElem?_cons_succ] at k1
                have c3 : w3.cell? ⟨ge, q, none⟩ = some (.int .i64 (e : Int)) := (HBw3.out.cell (p := ⟨ge, q, none⟩) hged).trans C2.out
                have hwr : IntKind.i64.wrap (x.arg + (e : Int)) = x.arg + (e : Int) := IntWalk.i64_in _ (by omega)
                have hge2 : ¬ ge = wr.heap.size := by omega
                have HD4 : Hid (DisSt (w3.setCell ⟨wr.heap.size, 1, none⟩ (.int .i64 (x.arg + (e : Int)))).drew b1 bO p (q + 1) (askPos ps ps 0) (.slice va2 m2 vc2) s2) := Lib.hid ((HD3.out.other (gr_set w3 wr.heap.size 1 _) (fun j hj => by
                  cases hj
                  refine ⟨hbO2, fun h => ?_⟩
                  rcases HOW2.out _ h with h | h
                  · have := HHI.out _ h; omega
                  · have := HSZ1.out; omega)).below ((Below.refl _ _).drew))
                have HK4 : Hid (BK (w3.setCell ⟨wr.heap.size, 1, none⟩ (.int .i64 (x.arg + (e : Int)))).drew wr.heap.size [.int .i64 x.op, .int .i64 (x.arg + (e : Int))] 37) := Lib.hid (hK3.set 1 _)
                have HBw4 : Hid (Below bO wr (w3.setCell ⟨wr.heap.size, 1, none⟩ (.int .i64 (x.arg + (e : Int)))).drew) := Lib.hid ((HBw3.out.setCell (p := ⟨wr.heap.size, 1, none⟩) (by show bO ≤ wr.heap.size; omega) _).drew)
                have hz4 : wr.heap.size + 1 ≤ (w3.setCell ⟨wr.heap.size, 1, none⟩ (.int .i64 (x.arg + (e : Int)))).drew.heap.size := by simp [World.setCell]; exact hz3
                clear hK3
                go_wp2_with fail
                go_region
                obtain ⟨W4, hW4⟩ : ∃ W, (w3.setCell ⟨wr.heap.size, 1, none⟩ (.int .i64 (x.arg + (e : Int)))).drew = W := ⟨_, rfl⟩
                rw [hW4] at HD4 HK4 HBw4 hz4
                rw [hW4]
                clear hW4 k1 k3 c3 hwr hz3
                have HO3 : Hid (W4.ownsRow (bO + 3) 37 2 (.slice va2 m2 vc2) m2 ((s2.1.map insC).flatten)) := Lib.hid (by have := HD4.out.ow; unfold OwI at this; rw [HM2.out] at this; exact this)
                have o0 := HD4.out.cells.2.1
                have k0 := HK4.out.cell 0
                have k1 := HK4.out.cell 1
                simp only [List.getElem?_cons_zero, List.getElem?_cons_succ] at k0 k1
                have HWX : Hid (InW ⟨x.op, x.arg + (e : Int)⟩) := Lib.hid ⟨HW.out.1, (show Wf (x.arg + (e : Int)) from by unfold Wf; omega)⟩
                go_wp2_with (at_builtin; refine wpList_append_lies rfl _ _ 22 rfl (bO + 3) 37 i0 (.agg #[.int .i64 0, .int .i64 0]) 2 16 Tryd.underlying22 hi hz1' hz2' hz3' rfl (by decide) (.slice va2 m2 vc2) m2 ((s2.1.map insC).flatten) rfl (ow_below HO3.out (bl_one W4 _)) ⟨W4.heap.size, 0, none⟩ 1 1 (insC (⟨x.op, x.arg + (e : Int)⟩ : IN)) rfl rfl (news_lit W4 (insC (⟨x.op, x.arg + (e : Int)⟩ : IN)) _) (insC_one _) (by decide) hbd.1 hbd.2 (by simp; omega) _ rfl ?_; intro g5 c5 w5 hown5 hgrow5 hat5 hlt5; have HO5 := Lib.hid (OwI.snoc (L := s2.1) (x := (⟨x.op, x.arg + (e : Int)⟩ : IN)) (by rw [HM2.out]; exact hown5)); have HLO := Lib.hid (fun j hj => ow_lo HO3.out j hj); have hdA := HD4.out.below (bl_one W4 (.cells (insC (⟨x.op, x.arg + (e : Int)⟩ : IN)).toArray 37)); have D5 := Lib.hid (hdA.app hgrow5 HO5.out); have e0 := (hdA.ko.kept hgrow5 (fun j hj => by have := HLO.out j hj; omega)).cell 0; have e1 := (hdA.ko.kept hgrow5 (fun j hj => by have := HLO.out j hj; omega)).fr 0; simp only [List.getElem?_cons_zero] at e0; have HB6 : Hid (Below bO wr (w5.setCell ⟨bO, 0, none⟩ (.slice (some ⟨g5, 0, none⟩) (m2 + 1) c5))) := Lib.hid (((HBw4.out.alloc (by omega) (.cells (insC (⟨x.op, x.arg + (e : Int)⟩ : IN)).toArray 37)).grown hgrow5 (by simp; omega) (fun j hj => by have := HLO.out j hj; omega)).setCell (p := ⟨bO, 0, none⟩) (Nat.le_refl _) _); have c6 : (w5.setCell ⟨bO, 0, none⟩ (.slice (some ⟨g5, 0, none⟩) (m2 + 1) c5)).cell? ⟨ge, q, none⟩ = some (.int .i64 (e : Int)) := (HB6.out.cell (p := ⟨ge, q, none⟩) hged).trans C2.out; clear hdA hown5 hgrow5 hat5)
                go_roundw
                case rel => exact ⟨q + 1, (s2.1 ++ [⟨x.op, x.arg + (e : Int)⟩], s2.2), _, by go_num, by omega, by rw [HEe.out], Lib.hid (lay_step2 HL.out hql HXD.out HEe.out HM1p.out HS2.out D5.out HB6.out HWX.out HKW.out)⟩
                case measure => simp [intOf]; omega
            · obtain rfl : p = q := by omega
              have HLB : Hid _ := Lib.hid (labelC wr b1 bO p p (askPos ps ps 0) vo s (k : Int) HL.out.ds (by rw [← HBP.out]; have := HL.out.keys; rw [← HP.out] at this; exact this) (by unfold Wf; omega) (by have := HL.out.l1; omega) (by have := HL.out.l2; omega) (by omega))
              obtain ⟨L, hL⟩ : ∃ L, (disGo (askPos ps ps 0) ps 0 0).1 = L := ⟨_, rfl⟩
              obtain ⟨qs, hqs⟩ : ∃ qs, (disGo (askPos ps ps 0) ps 0 0).2 = qs := ⟨_, rfl⟩
              have hlab : labD (askPos ps ps 0) (k : Int) s = (L, qs) := by
                have h1 := HL.out.eq
                rw [← HP.out] at h1
                have h2 := disEq_end h1
                rw [HBP.out] at h2
                rw [h2, ← hL, ← hqs]
              have HDB : Hid (disP b = .inr (L.map (setJ qs))) := Lib.hid (by rw [HOUT.out, ← hL, ← hqs]; rfl)
              have HI : Hid (∀ x ∈ L, InW x) := Lib.hid (by
                have e : L = (labD (askPos ps ps 0) (k : Int) s).1 := by rw [hlab]
                rw [e]
                intro y hy
                unfold labD at hy
                split at hy
                · rcases List.mem_append.1 hy with h | h
                  · exact HL.out.inw y h
                  · simp at h; subst h
                    have := HL.out.l2
                    exact ⟨by unfold Wf; simp, (show Wf (s.2.length : Int) from by unfold Wf; omega)⟩
                · exact HL.out.inw y hy)
              have hLl : L.length ≤ 2 * p + 1 := by
                have h1 := (lab_len1 (askPos ps ps 0) (k : Int) s).1
                rw [hlab] at h1
                have h2 := HL.out.l1
                simp only at h1
                omega
              rw [hlab] at HLB
              obtain ⟨m2, hm2⟩ : ∃ m, L.length = m := ⟨_, rfl⟩
              have HM2 := Lib.hid hm2
              rw [hm2] at hLl
              have HWB := Lib.hid HL.out.bl
              have hbw : w.heap.size < bO := by have := HL.out.b0; have := HL.out.ds.lt; omega
              clear hL hqs hlab hm2
              go_wp2_with fail
              refine HLB.out.mono ?_
              rintro e' w2 ⟨rfl, vo2, hd2, hkp2, how2⟩
              obtain ⟨va2, vc2, hv2⟩ := ow_shape hd2.ow
              simp only [HM2.out] at hv2
              subst hv2
              have HD2 : Hid (DisSt w2 b1 bO p (p + 1) (askPos ps ps 0) (.slice va2 m2 vc2) (mixL (setJ qs) L 0, qs)) := Lib.hid (by unfold mixL; simpa using hd2)
              have HB2 : Hid (Below w.heap.size w w2) := Lib.hid (HWB.out.trans (hkp2.1.mono (by omega)))
              have o0 := hd2.cells.2.1
              clear hd2 hkp2 how2
              go_wp2_with fail
              clear o0
              go_loopw [117] (fun i wz => ∃ t : Nat, i = .int .i64 t ∧ t ≤ m2 ∧ Hid (DisSt wz b1 bO p (p + 1) (askPos ps ps 0) (.slice va2 m2 vc2) (mixL (setJ qs) L t, qs)) ∧ Hid (Below w.heap.size w wz)) (fun i _ => m2 - (intOf i).toNat)
              case atStart => exact ⟨0, rfl, Nat.zero_le _, HD2, HB2⟩
              case round =>
                obtain ⟨t, rfl, htp, HDt, HBt⟩ := hrel
                by_cases hlt4 : t < m2
                · have htL : t < L.length := by rw [HM2.out]; exact hlt4
                  obtain ⟨g, cp, hg1, hg2, hg3⟩ := HDt.out.ow.shape (by rw [mix_len]; omega)
                  simp only [mix_len, HM2.out] at hg1
                  simp at hg1
                  obtain ⟨rfl, rfl⟩ := hg1
                  have hmix := mix_at (setJ qs) L t htL
                  obtain ⟨c0, c1, c2⟩ := HDt.out.ow.cells (by rw [mix_len, HM2.out]) t (by rw [mix_len]; exact htL)
                  rw [hmix] at c0 c1
                  have hyw := HI.out L[t] (List.getElem_mem htL)
                  obtain ⟨y, hy⟩ : ∃ y, L[t] = y := ⟨_, rfl⟩
                  rw [hy] at c0 c1 hyw
                  have HY := Lib.hid hy
                  clear hmix hy
                  cases hj : isJ y with
                  | true =>
                    have HA := Lib.hid (fun w => asksC2 y true hj w)
                    have HS := Lib.hid (show (mixL (setJ qs) L t).set t ⟨((mixL (setJ qs) L t)[t]'(by rw [mix_len]; exact htL)).op, lastN qs y.arg 0⟩ = mixL (setJ qs) L (t + 1) from by
                      rw [mix_at _ _ _ htL, ← mix_set (setJ qs) L t htL, HY.out]; unfold setJ; rw [if_pos hj])
                    clear hj
                    go_wp2_with fail
                    refine (HA.out _).mono ?_
                    rintro e w1 ⟨rfl, hb1⟩
                    have HB1' : Hid (Below wr.heap.size wr w1) := Lib.hid (bl_thenA (bl_a (Below.refl _ _) _) hb1)
                    have HD1 := Lib.hid (HDt.out.below HB1'.out)
                    obtain ⟨d0, d1, d2⟩ := HD1.out.ow.cells (by rw [mix_len, HM2.out]) t (by rw [mix_len]; exact htL)
                    obtain ⟨_, o0, o1, _⟩ := HD1.out.cells
                    have hlk := HD1.out.mn.look hyw.2
                    have hk1 := ((BK.new wr [.int .i64 y.op, .int .i64 y.arg] 37).below hb1).cell 1
                    simp only [List.getElem?_cons_zero, List.getElem?_cons_succ] at hk1
                    have HD2' := Lib.hid (HD1.out.put (by rw [mix_len, HM2.out]) t (by rw [mix_len]; exact htL) (lastN qs y.arg 0))
                    rw [HS.out] at HD2'
                    have HB2' : Hid (Below w.heap.size w (w1.setCell ⟨g, t * 2 + 1, none⟩ (.int .i64 (lastN qs y.arg 0)))) := Lib.hid ((bl_thenA HBt.out HB1'.out).setCell (p := ⟨g, t * 2 + 1, none⟩) (by show w.heap.size ≤ g; omega) _)
                    clear hb1 d0
                    go_wp2
                    go_roundw
                    case rel => exact ⟨t + 1, by go_num, by omega, HD2', HB2'⟩
                    case measure => simp [intOf]; omega
                  | false =>
                    have HA := Lib.hid (fun w => asksC2 y false hj w)
                    have HS := Lib.hid (mix_skip (setJ qs) L t htL (by rw [HY.out]; unfold setJ; rw [if_neg (by simp [hj])]))
                    clear hj
                    go_wp2_with fail
                    refine (HA.out _).mono ?_
                    rintro e w1 ⟨rfl, hb1⟩
                    have HB1' : Hid (Below wr.heap.size wr w1) := Lib.hid (bl_thenA (bl_a (Below.refl _ _) _) hb1)
                    have HD1 := Lib.hid (HDt.out.below HB1'.out)
                    have HB2' := Lib.hid (bl_thenA HBt.out HB1'.out)
                    clear hb1
                    go_wp2
                    go_roundw
                    case rel => exact ⟨t + 1, by go_num, by omega, by rw [HS.out]; exact HD1, HB2'⟩
                    case measure => simp [intOf]; omega
                · obtain rfl : m2 = t := by omega
                  have o0 := HDt.out.cells.2.1
                  go_wp2
                  go_ret2
                  refine disOut_ok HDB.out HBt.out ?_
                  have h1 := HDt.out.ow
                  rw [← HM2.out, mix_end, HM2.out] at h1
                  refine ⟨h1.1, ?_⟩
                  rcases h1.2 with h0 | ⟨g, cap, cur, e, hbg, r⟩
                  · exact .inl h0
                  · exact .inr ⟨g, cap, cur, e, by omega, r⟩
end Go.Proofs.YtbcpopakdlplgaaDoor
