/- Contract of clewref36.Item. -/
import Derived.Test.YtjggklfegcejhaaGreatRefV
import Derived.Deep.DeepCutAuto
namespace Go.Proofs.YtjggklfegcejhaaGreat
open Go.RowKit Go.PlainAid
set_option linter.unusedVariables false
set_option linter.unusedSimpArgs false

theorem bk3 {w : World} {k : Nat} {v0 v1 v2 : Value} {T : TypeId} (h : BK w k [v0, v1, v2] T) : w.frozen? ⟨k, 0, none⟩ = false ∧ w.frozen? ⟨k, 1, none⟩ = false ∧ w.frozen? ⟨k, 2, none⟩ = false ∧ w.cell? ⟨k, 0, none⟩ = some v0 ∧ w.cell? ⟨k, 1, none⟩ = some v1 ∧ w.cell? ⟨k, 2, none⟩ = some v2 := ⟨h.fr 0, h.fr 1, h.fr 2, h.cell 0, h.cell 1, h.cell 2⟩
theorem OwnInts.set {B : Nat} {w : World} {v : Value} {l : List Int} {k : Nat} (h : OwnInts B w v l) (hk : k < B) (o : Nat) (u : Value) : OwnInts B (w.setCell ⟨k, o, none⟩ u) v l :=
 ⟨ow_grown h.1 (gr_set w k o u) (fun j e => by have h9 : k = j := Option.some.inj e; omega), h.2⟩
theorem size_set (w : World) (k o : Nat) (u : Value) : (w.setCell ⟨k, o, none⟩ u).heap.size = w.heap.size := by simp [World.setCell]
theorem lit_set3 (w : World) {B k : Nat} (hB : B ≤ w.heap.size) (o1 o2 o3 : Nat) (u1 u2 u3 : Value) {i : Int} : OwnInts B ((((w.setCell ⟨k, o1, none⟩ u1).setCell ⟨k, o2, none⟩ u2).setCell ⟨k, o3, none⟩ u3).alloc (.cells #[.int .i64 i] 3)) (.slice (some ⟨w.heap.size, 0, none⟩) ([i]).length 1) [i] := by
 have e : (((w.setCell ⟨k, o1, none⟩ u1).setCell ⟨k, o2, none⟩ u2).setCell ⟨k, o3, none⟩ u3).heap.size = w.heap.size := by rw [size_set, size_set, size_set]
 have := World.ownsRow_lit (base := B) (e := 3) (size := 1) (((w.setCell ⟨k, o1, none⟩ u1).setCell ⟨k, o2, none⟩ u2).setCell ⟨k, o3, none⟩ u3) #[.int .i64 i] 1 (by rw [e]; exact hB) (by decide) rfl
 rw [e] at this
 exact ⟨this, fun h => by cases h⟩
/-- It returns a phrase, its things in a row of its own. -/
def RetPhO (w : World) (p : PhC) (e : Ending) (w' : World) : Prop := ∃ a c, e = .returned (.agg #[.slice a p.th.length c, .int .i64 p.us, .int .i64 p.er]) ∧ OwnInts w.heap.size w' (.slice a p.th.length c) p.th ∧ Below w.heap.size w w'
set_option maxRecDepth 100000 in
set_option maxHeartbeats 16000000 in
theorem refItem (x : TAd) (t : TbC) (q : Wv) (d : WdC) (a : Option Addr) (ws : List TxC) (c : Nat) (w : World) (ht : TabIs w x t) (hW : WOk w q d t.th.length) (hd : ∀ x, (kidsW d.ch d.nx t.th.length x).Nodup) (hky : KeyOk t) (h2 : 2 ≤ t.th.length)
    (hw : Wds w a ws) (hc : ws.length ≤ c) (hwl : ws.length ≤ 1000) :
    Calls Tryz.prog 10 #[tabV x t, worldV q, .slice a ws.length c] w (RetPhO w (itemN (oneW t q d (ws.map keyW)))) := by
 have hnew := Thr.new x t q w [.slice none 0 0, .int .i64 0, .int .i64 0]
 obtain ⟨W0, hW0⟩ : ∃ W0, ((w.alloc (.cells (tabC x t).toArray 28)).alloc (.cells (worldC q).toArray 31)).alloc (.cells ([.slice none 0 0, .int .i64 0, .int .i64 0] : List Value).toArray 36) = W0 := ⟨_, rfl⟩
 rw [hW0] at hnew
 have HST := Lib.hid hnew
 have hm := reads_few ht.th
 unfold maxLen at hm
 have hfew := hW.few
 have HSE := Lib.hid (fun y w' (hb : Below w.heap.size w w') => ref23Sees x t q d t.th.length y w' (hW.below hb) hd)
 have HNM := Lib.hid (fun s w' (hb : Below w.heap.size w w') hs => refNamed x t q d s w' (ht.below hb) (hW.below hb) hd hky hs)
 have HIS := Lib.hid (fun i a ws c w' (hb : Below w.heap.size w w') hw hc => refIs36 x t i a ws c w' (ht.below hb) hw hc hky)
 have HHAS := Lib.hid (fun s a (l : List TxC) c w' hw hl hs => refHas36 s a l c w' hw hl hs)
 have HKYS := Lib.hid (fun s w' (hs : s.length ≤ maxLen) => refPlain36 s w' hs)
 have HWD := Lib.hid (fun w' (hb : Below w.heap.size w w') => hw.below hb)
 have HWL := Lib.hid hw.1
 have HS1 : Hid (∀ y, seesN d t.th.length y = true → 1 ≤ y) := Lib.hid (fun y h => by have := sees_is h2 h; unfold isW at this; rw [decide_eq_true_eq] at this; exact this.1)
 have HR0 : Hid (oneW t q d (ws.map keyW) = oneN t (seenTo (seesN d t.th.length) t.th.length) (seesN d t.th.length q.it) q.it (ws.map keyW)) := Lib.hid (by unfold oneW; rw [sit_eq q.it h2])
 obtain ⟨i0, hi, hz0, hz1, hz2⟩ := info_parts info_intV
 rw [HR0.out]
 obtain ⟨sees, hsees⟩ : ∃ s, seesN d t.th.length = s := ⟨_, rfl⟩
 rw [hsees] at HSE HNM HS1 ⊢
 clear ht hW hw hsees HR0 hnew hd hky
 generalize hR : oneN t (seenTo sees t.th.length) (sees q.it) q.it (ws.map keyW) = R
 have HR := Lib.hid hR
 clear hR
 obtain ⟨m, hwm⟩ : ∃ m, ws.length = m := ⟨_, rfl⟩
 have HWM := Lib.hid hwm
 rw [hwm] at hc hwl ⊢
 clear hwm
 have HSTt := Lib.hid HST.out.bt
 have HSTw := Lib.hid HST.out.bw
 obtain ⟨kt0, kt1, kt2, kt3, kt4, kt5, kt6, kt7, kt8, kt9, kt10, kt11, kt12, kt13, kt14⟩ := tab15 (HSTt.out)
 obtain ⟨b0, b1, b2, b3, b4, b5, b6, b7, b8, b9, bA, bB, bC⟩ := wd13 (HSTw.out)
 unfold tabV worldV at *
 go_enter Tryz.func10, Tryz.ntmps10
 unfold worldC at HSE HNM hW0 ⊢
 unfold tabC at HSE HNM HIS hW0 ⊢
 by_cases hm0 : m = 0
 · have hws : ws = [] := List.length_eq_zero_iff.1 (by rw [HWM.out]; exact hm0)
   subst hm0
   have HPF : Hid (itemN R = ⟨[], 0, 2⟩) := Lib.hid (by rw [← HR.out, hws]; rfl)
   clear hws
   -- world, used (Int), err
   have HBR : Hid (BK W0 (w.heap.size + 1 + 1) [.slice none 0 0, .int .i64 0, .int .i64 0] 36) := Lib.hid HST.out.br
   obtain ⟨q0, q1, q2, n0, n1, n2⟩ := bk3 HBR.out
   have hz2 : w.heap.size + 1 + 1 < (W0).heap.size := HBR.out.lt
   go_wp2_with fail
   generalize hWf : World.setCell _ ⟨w.heap.size + 1 + 1, 2, none⟩ _ = Wf
   have HFin : BK Wf (w.heap.size + 1 + 1) [.slice none 0 0, .int .i64 0, .int .i64 2] 36 := by
    rw [← hWf]
    have := ((HBR.out.set 0 (.slice none 0 0)).set 1 (.int .i64 0)).set 2 (.int .i64 2)
    simp only [List.set_cons_zero, List.set_cons_succ] at this
    exact this
   have HLF : Below w.heap.size w Wf := by
    rw [← hWf]
    exact bl_s (bl_s (bl_s HST.out.bl _ _) _ _) _ _
   clear hWf
   have HLFh := Lib.hid HLF
   obtain ⟨-, -, -, v0, v1, v2⟩ := bk3 HFin
   clear HLF
   rw [HPF.out]
   refine bodyPost_ret (v := .agg #[.slice none 0 0, .int .i64 0, .int .i64 2]) ?_ rfl ⟨none, 0, rfl, ⟨World.ownsRow_nil _ _ _ _, fun _ => rfl⟩, HLFh.out⟩
   simp [results, Tryz.results10, go_sem, v0, v1, v2]
 · have hm00 : (0 : Int) < (m : Int) := by omega
   have hw0 : 0 < ws.length := by rw [HWM.out]; omega
   obtain ⟨b, o, rfl, hb, hcs⟩ := (HWD.out W0 HST.out.bl).2 hw0
   have hc0 := hcs 0 hw0
   rw [Nat.add_zero] at hc0
   obtain ⟨s0, hs0⟩ : ∃ s, ws[0] = s := ⟨_, rfl⟩
   rw [hs0] at hc0
   have HL0 : Hid (s0.length ≤ maxLen) := Lib.hid (HWL.out s0 (by rw [← hs0]; exact List.getElem_mem hw0))
   have HAN : Hid (artN (ws.map keyW) = if theL.contains (keyW s0) = true then 1 else 0) := Lib.hid (by
    obtain ⟨a', l', rfl⟩ : ∃ a' l', ws = a' :: l' := by cases ws with | nil => simp at hw0 | cons a' l' => exact ⟨a', l', rfl⟩
    simp only [List.getElem_cons_zero] at hs0
    subst hs0
    rfl)
   clear hcs hs0
   obtain ⟨ar, har⟩ : ∃ r, theL.contains (keyW s0) = r := ⟨_, rfl⟩
   have HAR := Lib.hid har
   rw [har] at HAN
   clear har
   have HAM : Hid (Calls Tryz.prog 23 #[.slice (some ⟨W0.heap.size, 0, none⟩) 3 3, .string ⟨s0.toArray⟩] (W0.alloc (.cells #[.string ⟨#[116, 104, 101]⟩, .string ⟨#[97]⟩, .string ⟨#[97, 110]⟩] 9)) fun e w'' => e = .returned (.bool ar) ∧ Below (W0.alloc (.cells #[.string ⟨#[116, 104, 101]⟩, .string ⟨#[97]⟩, .string ⟨#[97, 110]⟩] 9)).heap.size (W0.alloc (.cells #[.string ⟨#[116, 104, 101]⟩, .string ⟨#[97]⟩, .string ⟨#[97, 110]⟩] 9)) w'') := Lib.hid (by
    have := HHAS.out s0 (some ⟨W0.heap.size, 0, none⟩) theL 3 _ (wds_lit W0 theL 9 (by decide)) (by decide) HL0.out
    rw [show theL.map keyW = theL by decide, HAR.out] at this
    exact this)
   have HSTa : Hid (Thr x t q w (W0.alloc (.cells #[.string ⟨#[116, 104, 101]⟩, .string ⟨#[97]⟩, .string ⟨#[97, 110]⟩] 9)) [.slice none 0 0, .int .i64 0, .int .i64 0]) := Lib.hid (HST.out.below (bl_a (Below.refl _ _) _))
   clear kt0 kt1 kt2 kt3 kt4 kt5 kt6 kt7 kt8 kt9 kt10 kt11 kt12 kt13 kt14
   clear b0 b1 b2 b3 b4 b5 b6 b7 b8 b9 bA bB bC
   clear HSTt HSTw
   go_wp2_with fail
   clear hW0
   refine HAM.out.mono ?_
   rintro e w3 ⟨rfl, hb3⟩
   have HST3 := Lib.hid (HSTa.out.below hb3)
   clear hb3 hc0 HST HSTa HAM
   have HST := HST3
   clear HST3
   go_upto_if 20 with (fail)
   go_cut [7] (fun s7 wx => ∃ A : Nat, s7 = .int .i64 A ∧ A ≤ 1 ∧ wx = w3 ∧ Hid (artN (ws.map keyW) = A))
   case first =>
    cases ar with
    | true =>
      go_wp2_with fail
      go_meet
      case rel => exact ⟨1, rfl, Nat.le_refl _, rfl, Lib.hid HAN.out⟩
    | false =>
      go_wp2_with fail
      go_meet
      case rel => exact ⟨0, rfl, Nat.zero_le _, rfl, Lib.hid HAN.out⟩
   case rest =>
    obtain ⟨A, rfl, hA1, hwx, HAN1⟩ := hcut
    subst hwx
    clear HAN HAR
    have hA0i : (0 : Int) ≤ (A : Int) := by omega
    by_cases hA : A = m
    · have HPF : Hid (itemN R = ⟨[], 0, 2⟩) := Lib.hid (by
        rw [← HR.out]
        rw [one_short (by rw [HAN1.out]; exact List.drop_eq_nil_of_le (by rw [List.length_map, HWM.out, hA]; exact Nat.le_refl _))]; rfl)
      subst hA
      -- world, used (Int), err
      have HBR : Hid (BK wc (w.heap.size + 1 + 1) [.slice none 0 0, .int .i64 0, .int .i64 0] 36) := Lib.hid HST.out.br
      obtain ⟨q0, q1, q2, n0, n1, n2⟩ := bk3 HBR.out
      have hz2 : w.heap.size + 1 + 1 < (wc).heap.size := HBR.out.lt
      go_upto_region 5 with (fail)
      repeat ((fail_if_success (with_reducible refine post_mark ?_)); go_step)
      try clear hwr hwr2
      generalize hWf : World.setCell _ ⟨w.heap.size + 1 + 1, 2, none⟩ _ = Wf
      have HFin : BK Wf (w.heap.size + 1 + 1) [.slice none 0 0, .int .i64 0, .int .i64 2] 36 := by
       rw [← hWf]
       have := ((HBR.out.set 0 (.slice none 0 0)).set 1 (.int .i64 0)).set 2 (.int .i64 2)
       simp only [List.set_cons_zero, List.set_cons_succ] at this
       exact this
      have HLF : Below w.heap.size w Wf := by
       rw [← hWf]
       exact bl_s (bl_s (bl_s HST.out.bl _ _) _ _) _ _
      clear hWf
      have HLFh := Lib.hid HLF
      obtain ⟨-, -, -, v0, v1, v2⟩ := bk3 HFin
      clear HLF
      rw [HPF.out]
      refine bodyPost_ret (v := .agg #[.slice none 0 0, .int .i64 0, .int .i64 2]) ?_ rfl ⟨none, 0, (by first | rfl | (rw [Int.natCast_add]; rfl)), ⟨World.ownsRow_nil _ _ _ _, fun _ => rfl⟩, HLFh.out⟩
      simp [results, Tryz.results10, go_sem, v0, v1, v2]
    · have hAm : A < m := by omega
      clear hA
      as_aux_lemma =>
       have hwA : A < ws.length := by rw [HWM.out]; omega
       obtain ⟨b', o', hbe, hb', hcs⟩ := (HWD.out _ HST.out.bl).2 (by omega)
       simp only [Option.some.injEq, Addr.mk.injEq, and_true] at hbe
       obtain ⟨rfl, rfl⟩ := hbe
       have hcA := hcs A hwA
       try rw [Nat.add_zero] at hcA
       obtain ⟨sA, hsA⟩ : ∃ s, ws[A] = s := ⟨_, rfl⟩
       rw [hsA] at hcA
       have HKA := Lib.hid (fun w' => HKYS.out sA w' (HWL.out sA (by rw [← hsA]; exact List.getElem_mem hwA)))
       have HDR : Hid ((ws.map keyW).drop (artN (ws.map keyW)) = keyW sA :: (ws.map keyW).drop (A + 1)) := Lib.hid (by
        rw [HAN1.out, drop_cons (by rw [List.length_map]; exact hwA)]
        simp [hsA])
       have hm1000 : (m : Int) ≤ 1000 := by omega
       have hmA : (A : Int) < (m : Int) := by omega
       have hne : ((m : Int) == A) = false := by simp; omega
       generalize keyW sA = kA at HKA HDR
       clear hcs hsA
       go_wp2_with fail
       refine (HKA.out _).mono ?_
       rintro e w4 ⟨rfl, hb4⟩
       have HST4 := Lib.hid (HST.out.below hb4)
       clear hb4 hcA HST hne
       have HST := HST4
       clear HST4
       by_cases hk : kA = itK
       · have e1 : (kA == [105, 116]) = true := by rw [hk]; rfl
         have HWRA : Hid (IntKind.i64.wrap ((A : Int) + 1) = (A : Int) + 1 ∧ wrap64 ((A : Int) + 1) = (A : Int) + 1) := Lib.hid ⟨IntWalk.i64_in _ (by omega), IntWalk.wrap64_in _ (by omega)⟩
         have HRI : Hid (R = if sees q.it = true then (q.it, A + 1, 0) else (0, A + 1, 11)) := Lib.hid (by
          rw [← HR.out]
          have := one_it (t := t) (seen := seenTo sees t.th.length) (sit := sees q.it) (it := q.it) (by rw [HDR.out, hk])
          rw [this, HAN1.out])
         have HSI := Lib.hid (HSE.out q.it)
         have HSTt := Lib.hid HST.out.bt
         have HSTw := Lib.hid HST.out.bw
         obtain ⟨kt0, kt1, kt2, kt3, kt4, kt5, kt6, kt7, kt8, kt9, kt10, kt11, kt12, kt13, kt14⟩ := tab15 (HSTt.out)
         obtain ⟨b0, b1, b2, b3, b4, b5, b6, b7, b8, b9, bA, bB, bC⟩ := wd13 (HSTw.out)
         by_cases h1 : q.it < 1
         · have HPF : Hid (itemN R = ⟨[], A + 1, 11⟩) := Lib.hid (by
             have hs : ¬ (sees q.it = true) := fun h => by have := HS1.out _ h; omega
             rw [HRI.out, if_neg hs]; rfl)
           obtain ⟨hwr, hwr2⟩ := HWRA.out
           -- world, used (Int), err
           have HBR : Hid (BK w4 (w.heap.size + 1 + 1) [.slice none 0 0, .int .i64 0, .int .i64 0] 36) := Lib.hid HST.out.br
           obtain ⟨q0, q1, q2, n0, n1, n2⟩ := bk3 HBR.out
           have hz2 : w.heap.size + 1 + 1 < (w4).heap.size := HBR.out.lt
           go_upto_region 8 with (fail)
           repeat ((fail_if_success (with_reducible refine post_mark ?_)); go_step)
           try clear hwr hwr2
           generalize hWf : World.setCell _ ⟨w.heap.size + 1 + 1, 2, none⟩ _ = Wf
           have HFin : BK Wf (w.heap.size + 1 + 1) [.slice none 0 0, .int .i64 ((A : Int) + 1), .int .i64 11] 36 := by
            rw [← hWf]
            have := ((HBR.out.set 0 (.slice none 0 0)).set 1 (.int .i64 ((A : Int) + 1))).set 2 (.int .i64 11)
            simp only [List.set_cons_zero, List.set_cons_succ] at this
            exact this
           have HLF : Below w.heap.size w Wf := by
            rw [← hWf]
            exact bl_s (bl_s (bl_s HST.out.bl _ _) _ _) _ _
           clear hWf
           have HLFh := Lib.hid HLF
           obtain ⟨-, -, -, v0, v1, v2⟩ := bk3 HFin
           clear HLF
           rw [HPF.out]
           refine bodyPost_ret (v := .agg #[.slice none 0 0, .int .i64 ((A : Int) + 1), .int .i64 11]) ?_ rfl ⟨none, 0, (by first | rfl | (rw [Int.natCast_add]; rfl)), ⟨World.ownsRow_nil _ _ _ _, fun _ => rfl⟩, HLFh.out⟩
           simp [results, Tryz.results10, go_sem, v0, v1, v2]
         · have h1' : ¬ (q.it < 1) := h1
           cases hsv : sees q.it with
           | false =>
             rw [hsv] at HRI HSI
             have HPF : Hid (itemN R = ⟨[], A + 1, 11⟩) := Lib.hid (by rw [HRI.out]; rfl)
             clear hsv
             go_wp2_with fail
             refine (HSI.out _ HST.out.bl).mono ?_
             rintro e w6 ⟨rfl, hb6⟩
             have HST1 := Lib.hid (HST.out.below hb6)
             clear kt0 kt1 kt2 kt3 kt4 kt5 kt6 kt7 kt8 kt9 kt10 kt11 kt12 kt13 kt14
             clear b0 b1 b2 b3 b4 b5 b6 b7 b8 b9 bA bB bC
             clear HSTt HSTw
             clear HST
             have HST := HST1
             clear HST1
             have HSTt := Lib.hid HST.out.bt
             have HSTw := Lib.hid HST.out.bw
             obtain ⟨kt0, kt1, kt2, kt3, kt4, kt5, kt6, kt7, kt8, kt9, kt10, kt11, kt12, kt13, kt14⟩ := tab15 (HSTt.out)
             obtain ⟨b0, b1, b2, b3, b4, b5, b6, b7, b8, b9, bA, bB, bC⟩ := wd13 (HSTw.out)
             clear hb6
             obtain ⟨hwr, hwr2⟩ := HWRA.out
             -- world, used (Int), err
             have HBR : Hid (BK w6 (w.heap.size + 1 + 1) [.slice none 0 0, .int .i64 0, .int .i64 0] 36) := Lib.hid HST.out.br
             obtain ⟨q0, q1, q2, n0, n1, n2⟩ := bk3 HBR.out
             have hz2 : w.heap.size + 1 + 1 < (w6).heap.size := HBR.out.lt
             go_upto_region 8 with (fail)
             repeat ((fail_if_success (with_reducible refine post_mark ?_)); go_step)
             try clear hwr hwr2
             generalize hWf : World.setCell _ ⟨w.heap.size + 1 + 1, 2, none⟩ _ = Wf
             have HFin : BK Wf (w.heap.size + 1 + 1) [.slice none 0 0, .int .i64 ((A : Int) + 1), .int .i64 11] 36 := by
              rw [← hWf]
              have := ((HBR.out.set 0 (.slice none 0 0)).set 1 (.int .i64 ((A : Int) + 1))).set 2 (.int .i64 11)
              simp only [List.set_cons_zero, List.set_cons_succ] at this
              exact this
             have HLF : Below w.heap.size w Wf := by
              rw [← hWf]
              exact bl_s (bl_s (bl_s HST.out.bl _ _) _ _) _ _
             clear hWf
             have HLFh := Lib.hid HLF
             obtain ⟨-, -, -, v0, v1, v2⟩ := bk3 HFin
             clear HLF
             rw [HPF.out]
             refine bodyPost_ret (v := .agg #[.slice none 0 0, .int .i64 ((A : Int) + 1), .int .i64 11]) ?_ rfl ⟨none, 0, (by first | rfl | (rw [Int.natCast_add]; rfl)), ⟨World.ownsRow_nil _ _ _ _, fun _ => rfl⟩, HLFh.out⟩
             simp [results, Tryz.results10, go_sem, v0, v1, v2]
           | true =>
             rw [hsv] at HRI HSI
             have HPF : Hid (itemN R = ⟨[q.it], A + 1, 0⟩) := Lib.hid (by rw [HRI.out]; rfl)
             clear hsv
             go_wp2_with fail
             refine (HSI.out _ HST.out.bl).mono ?_
             rintro e w6 ⟨rfl, hb6⟩
             have HST1 := Lib.hid (HST.out.below hb6)
             clear kt0 kt1 kt2 kt3 kt4 kt5 kt6 kt7 kt8 kt9 kt10 kt11 kt12 kt13 kt14
             clear b0 b1 b2 b3 b4 b5 b6 b7 b8 b9 bA bB bC
             clear HSTt HSTw
             clear HST
             have HST := HST1
             clear HST1
             have HSTt := Lib.hid HST.out.bt
             have HSTw := Lib.hid HST.out.bw
             obtain ⟨kt0, kt1, kt2, kt3, kt4, kt5, kt6, kt7, kt8, kt9, kt10, kt11, kt12, kt13, kt14⟩ := tab15 (HSTt.out)
             obtain ⟨b0, b1, b2, b3, b4, b5, b6, b7, b8, b9, bA, bB, bC⟩ := wd13 (HSTw.out)
             clear hb6
             have HBR : Hid (BK w6 (w.heap.size + 1 + 1) [.slice none 0 0, .int .i64 0, .int .i64 0] 36) := Lib.hid HST.out.br
             obtain ⟨q0, q1, q2, n0, n1, n2⟩ := bk3 HBR.out
             have hz2' : w.heap.size + 1 + 1 < w6.heap.size := HBR.out.lt
             obtain ⟨hwr, hwr2⟩ := HWRA.out
             go_upto_region 9 with (fail)
             repeat ((fail_if_success (with_reducible refine post_mark ?_)); go_step)
             try clear hwr hwr2
             generalize hWf : World.alloc _ _ = Wf
             have HFin : BK Wf (w.heap.size + 1 + 1) [.slice (some ⟨w6.heap.size, 0, none⟩) ([q.it]).length 1, .int .i64 ((A : Int) + 1), .int .i64 0] 36 := by
              rw [← hWf]
              have := (((HBR.out.set 0 (.slice (some ⟨w6.heap.size, 0, none⟩) ([q.it]).length 1)).set 1 (.int .i64 ((A : Int) + 1))).set 2 (.int .i64 0)).alloc (.cells #[.int .i64 q.it] 3)
              simp only [List.set_cons_zero, List.set_cons_succ] at this
              exact this
             have HLF : Below w.heap.size w Wf := by
              rw [← hWf]
              exact bl_a (bl_s (bl_s (bl_s HST.out.bl _ _) _ _) _ _) _
             have HOWf : Hid (OwnInts w.heap.size Wf (.slice (some ⟨w6.heap.size, 0, none⟩) ([q.it]).length 1) [q.it]) := Lib.hid (by
              rw [← hWf]
              exact lit_set3 w6 (by omega) _ _ _ _ _ _)
             clear hWf
             have HLFh := Lib.hid HLF
             obtain ⟨-, -, -, v0, v1, v2⟩ := bk3 HFin
             clear HLF
             rw [HPF.out]
             refine bodyPost_ret (v := .agg #[.slice (some ⟨w6.heap.size, 0, none⟩) ([q.it]).length 1, .int .i64 ((A : Int) + 1), .int .i64 0]) ?_ rfl ⟨some ⟨w6.heap.size, 0, none⟩, 1, (by first | rfl | (rw [Int.natCast_add]; rfl)), HOWf.out, HLFh.out⟩
             simp [results, Tryz.results10, go_sem, v0, v1, v2]
       · have e1 : (kA == [105, 116]) = false := by simp; exact hk
         have HNK := Lib.hid hk
         clear hk
         go_wp2_with fail
         clear e1 HKA
         go_loopw [8] (fun iv wr2 => ∃ z : Nat, iv = .int .i64 z ∧ A ≤ z ∧ z ≤ m ∧ Hid (∀ j (h : j < ws.length), A ≤ j → j < z → knownN t (seenTo sees t.th.length) (keyW ws[j]) = true) ∧ Hid (Below w4.heap.size w4 wr2)) (fun iv _ => m - (intOf iv).toNat)
         case atStart => exact ⟨A, rfl, Nat.le_refl _, by omega, Lib.hid (fun j _ h1 h2 => by omega), Lib.hid (Below.refl _ _)⟩
         case round =>
          obtain ⟨z, rfl, hzA, hzm, HI, HB⟩ := hrel
          have HSTz := Lib.hid (HST.out.below HB.out)
          clear HST
          have HST := HSTz
          clear HSTz
          obtain ⟨wo, rfl⟩ : ∃ wo, wo = wr := ⟨wr, rfl⟩
          by_cases hlt : z < m
          · have hlt2 : (z : Int) < (m : Int) := by omega
            have hwz : z < ws.length := by rw [HWM.out]; exact hlt
            obtain ⟨b2', o2, hbe, hb2', hcs⟩ := (HWD.out _ HST.out.bl).2 (by omega)
            simp only [Option.some.injEq, Addr.mk.injEq, and_true] at hbe
            obtain ⟨rfl, rfl⟩ := hbe
            have hcz := hcs z hwz
            obtain ⟨sz, hsz⟩ : ∃ s, ws[z] = s := ⟨_, rfl⟩
            rw [hsz] at hcz
            have HSZ := Lib.hid hsz
            have HKZ := Lib.hid (fun w' hb => HNM.out sz w' hb (HWL.out sz (by rw [← hsz]; exact List.getElem_mem hwz)))
            obtain ⟨kn, hkn⟩ : ∃ r, knownN t (seenTo sees t.th.length) (keyW sz) = r := ⟨_, rfl⟩
            rw [hkn] at HKZ
            have HKE := Lib.hid hkn
            clear hcs hsz hkn
            have HSTt := Lib.hid HST.out.bt
            have HSTw := Lib.hid HST.out.bw
            obtain ⟨kt0, kt1, kt2, kt3, kt4, kt5, kt6, kt7, kt8, kt9, kt10, kt11, kt12, kt13, kt14⟩ := tab15 (HSTt.out)
            obtain ⟨b0, b1, b2, b3, b4, b5, b6, b7, b8, b9, bA, bB, bC⟩ := wd13 (HSTw.out)
            have hzt : w.heap.size < wo.heap.size := HSTt.out.lt
            have hzw : w.heap.size + 1 < wo.heap.size := HSTw.out.lt
            go_wp2_with fail
            refine region_text (fun w' => Below (wo).heap.size (wo) w') (by kernel_rfl) (by kernel_rfl) ((Below.refl _ _).drew) (fun KK hKK => ?_)
            intro OPS
            try simp only [List.append]
            repeat (first
             | (refine' inText_val ?_ ?_ ?_ ?_
                rotate_left 2
                · rfl
                · (intro w' hS; obtain ⟨hcc, hff⟩ := bcell hS; go_simp; first | with_reducible rfl | skip)
                · (simp only [Act.put, List.setIfInBounds_toArray, List.set_cons_zero, List.set_cons_succ]; with_reducible rfl))
             | (refine' inText_skip ?_ ?_ ?_
                rotate_left 1
                · rfl
                · (simp only [Act.put, List.setIfInBounds_toArray, List.set_cons_zero, List.set_cons_succ]; with_reducible rfl))
             | (refine' inText_call ?_ ?_ ?_ ?_ ?_
                rotate_left 4
                · rfl
                · (intro w' hS; obtain ⟨hcc, hff⟩ := bcell hS; go_simp; exact ⟨rfl, rfl⟩)
                · (intro w' hS
                   first
                    | ((with_reducible refine (HKZ.out w' (bl_then HST.out.bl hS)).mono ?_); exact fun e w'' h => ⟨h.1, bl_then hS h.2⟩))
                · (simp only [Act.put, List.setIfInBounds_toArray, List.set_cons_zero, List.set_cons_succ]; with_reducible rfl)))
            refine inText_nil (hKK.out _ (fun w5 hS => ?_))
            have HB5 := Lib.hid (bl_then HB.out hS)
            have HST5 := Lib.hid (HST.out.below hS)
            clear hS hKK OPS hcz hzt hzw
            clear kt0 kt1 kt2 kt3 kt4 kt5 kt6 kt7 kt8 kt9 kt10 kt11 kt12 kt13 kt14
            clear b0 b1 b2 b3 b4 b5 b6 b7 b8 b9 bA bB bC
            clear HSTt HSTw
            clear HST HB
            have HST := HST5
            clear HST5
            cases kn with
            | true =>
              have HI2 : Hid (∀ j (h : j < ws.length), A ≤ j → j < z + 1 → knownN t (seenTo sees t.th.length) (keyW ws[j]) = true) := Lib.hid (fun j hj h1 h2 => by
               by_cases e : j = z
               · subst e; rw [HSZ.out]; exact HKE.out
               · exact HI.out j hj h1 (by omega))
              go_wp2_with fail
              go_roundw
              case rel => exact ⟨z + 1, by go_num, by omega, by omega, HI2, HB5⟩
              case measure => simp [intOf]; omega
            | false =>
              have HTW : Hid ((((ws.map keyW).drop (artN (ws.map keyW))).takeWhile (knownN t (seenTo sees t.th.length))).length = z - A) := Lib.hid (by
               rw [HAN1.out]
               refine tw_len _ _ _ (by rw [List.length_drop, List.length_map, HWM.out]; omega) (fun j hj hjz => ?_) (fun hj => ?_)
               · rw [List.getElem_drop, List.getElem_map]; exact HI.out _ (by rw [List.length_drop, List.length_map] at hj; omega) (by omega) (by omega)
               · rw [List.getElem_drop, List.getElem_map]
                 have e : A + (z - A) = z := by omega
                 simp only [e, HSZ.out]
                 exact HKE.out)
              as_aux_lemma =>
               by_cases hzz : z = A
               · have hzz2 : A = z := hzz.symm
                 subst hzz2
                 have HPF : Hid (itemN R = ⟨[], A, 11⟩) := Lib.hid (by
                  rw [← HR.out]
                  have := one_none (t := t) (seen := seenTo sees t.th.length) (sit := sees q.it) (it := q.it) HDR.out HNK.out (by rw [HTW.out, Nat.sub_self])
                  rw [this, HAN1.out]; rfl)
                 -- world, used (Int), err
                 have HBR : Hid (BK w5 (w.heap.size + 1 + 1) [.slice none 0 0, .int .i64 0, .int .i64 0] 36) := Lib.hid HST.out.br
                 obtain ⟨q0, q1, q2, n0, n1, n2⟩ := bk3 HBR.out
                 have hz2 : w.heap.size + 1 + 1 < (w5).heap.size := HBR.out.lt
                 go_upto_region 14 with (fail)
                 repeat ((fail_if_success (with_reducible refine post_mark ?_)); go_step)
                 try clear hwr hwr2
                 generalize hWf : World.setCell _ ⟨w.heap.size + 1 + 1, 2, none⟩ _ = Wf
                 have HFin : BK Wf (w.heap.size + 1 + 1) [.slice none 0 0, .int .i64 A, .int .i64 11] 36 := by
                  rw [← hWf]
                  have := ((HBR.out.set 0 (.slice none 0 0)).set 1 (.int .i64 A)).set 2 (.int .i64 11)
                  simp only [List.set_cons_zero, List.set_cons_succ] at this
                  exact this
                 have HLF : Below w.heap.size w Wf := by
                  rw [← hWf]
                  exact bl_s (bl_s (bl_s HST.out.bl _ _) _ _) _ _
                 clear hWf
                 have HLFh := Lib.hid HLF
                 obtain ⟨-, -, -, v0, v1, v2⟩ := bk3 HFin
                 clear HLF
                 rw [HPF.out]
                 refine bodyPost_ret (v := .agg #[.slice none 0 0, .int .i64 A, .int .i64 11]) ?_ rfl ⟨none, 0, (by first | rfl | (rw [Int.natCast_add]; rfl)), ⟨World.ownsRow_nil _ _ _ _, fun _ => rfl⟩, HLFh.out⟩
                 simp [results, Tryz.results10, go_sem, v0, v1, v2]
               · -- A; the world
                 have ez : ((z : Int) == (A : Int)) = false := by simp; omega
                 have HRG : Hid (R = resN ((seenTo sees t.th.length).filter (fun y => isN t y (((ws.map keyW).drop A).take (z - A)))) z) := Lib.hid (by
                  rw [← HR.out]
                  have := one_go (t := t) (seen := seenTo sees t.th.length) (sit := sees q.it) (it := q.it) HDR.out HNK.out HTW.out (by omega)
                  rw [this, HAN1.out, show A + (z - A) = z by omega])
                 have hln : ((ws.drop A).take (z - A)).length = z - A := by rw [List.length_take, List.length_drop, HWM.out]; omega
                 have hmk : ((ws.drop A).take (z - A)).map keyW = ((ws.map keyW).drop A).take (z - A) := by rw [List.map_take, List.map_drop]
                 have HISP := Lib.hid (fun y w' (hb : Below w.heap.size w w') => HIS.out y (some ⟨b, o + A, none⟩) ((ws.drop A).take (z - A)) (c - A) w' hb ((HWD.out w' hb).mid A (z - A) (by rw [HWM.out]; omega)) (by rw [hln]; unfold maxLen; omega))
                 rw [hln, hmk] at HISP
                 try simp only [Nat.add_zero, Nat.sub_zero] at HISP
                 obtain ⟨P, hP⟩ : ∃ P : Int → Bool, (fun y => isN t y (((ws.map keyW).drop A).take (z - A))) = P := ⟨_, rfl⟩
                 have HP : Hid (∀ y, isN t y (((ws.map keyW).drop A).take (z - A)) = P y) := Lib.hid (fun y => by rw [← hP])
                 try simp only [Nat.sub_zero] at HP
                 rw [hP] at HRG
                 clear hln hmk hP
                 have HZW : Hid (w.heap.size + 1 + 1 < (w5).heap.size) := Lib.hid HST.out.br.lt
                 have HS0 : Hid (seenTo sees 1 = []) := Lib.hid (by rw [seen_succ]; rfl)
                 go_wp2_with fail
                 clear ez
                 go_loopw [9, 10] (fun ov iv wr3 => ∃ (i j : Nat) (va : Option Addr) (vc : Nat), ov = .slice va j vc ∧ iv = .int .i64 i ∧ 1 ≤ i ∧ i ≤ t.th.length ∧ Hid (((seenTo sees i).filter P).length = j) ∧ Hid (OwnInts (w5).heap.size wr3 (.slice va j vc) ((seenTo sees i).filter P)) ∧ Hid (Below (w5).heap.size w5 wr3)) (fun _ iv _ => t.th.length - (intOf iv).toNat)
                 case atStart => exact ⟨1, 0, none, 0, rfl, rfl, Nat.le_refl _, by omega, Lib.hid (by rw [HS0.out]; rfl), Lib.hid (by rw [HS0.out]; exact ⟨World.ownsRow_nil _ _ _ _, fun _ => rfl⟩), Lib.hid (Below.refl _ _)⟩
                 case round =>
                  obtain ⟨i, j, va, vc, rfl, rfl, hi1, hil, HPL, HOW, HB3⟩ := hrel
                  have HST3 := Lib.hid (HST.out.below HB3.out)
                  by_cases hi3 : i < t.th.length
                  · have hi32 : (i : Int) < (t.th.length : Int) := by omega
                    have HSS := Lib.hid (seen_succ sees i)
                    have HSI := Lib.hid (HSE.out (i : Int))
                    have HISy := Lib.hid (HISP.out (i : Int))
                    obtain ⟨sv, hsv⟩ : ∃ r, sees (i : Int) = r := ⟨_, rfl⟩
                    obtain ⟨pv, hpv⟩ : ∃ r, P (i : Int) = r := ⟨_, rfl⟩
                    rw [HP.out, hpv] at HISy
                    rw [hsv] at HSI
                    have HFE : Hid ((seenTo sees (i + 1)).filter P = (seenTo sees i).filter P ++ (if (sv && pv) = true then [(i : Int)] else [])) := Lib.hid (by
                     rw [HSS.out, hsv, show decide (0 < (i : Int)) = true by rw [decide_eq_true_eq]; omega, List.filter_append, Bool.true_and]
                     congr 1
                     cases sv with
                     | false => simp
                     | true => cases pv with
                       | false => simp [hpv]
                       | true => simp [hpv])
                    have hj : j ≤ 1000 := by
                     have h1 := List.length_filter_le P (seenTo sees i)
                     have h2 := seen_len sees i
                     rw [HPL.out] at h1
                     omega
                    clear hsv hpv HSS
                    have HSTt := Lib.hid HST3.out.bt
                    have HSTw := Lib.hid HST3.out.bw
                    obtain ⟨kt0, kt1, kt2, kt3, kt4, kt5, kt6, kt7, kt8, kt9, kt10, kt11, kt12, kt13, kt14⟩ := tab15 (HSTt.out)
                    obtain ⟨b0, b1, b2, b3, b4, b5, b6, b7, b8, b9, bA, bB, bC⟩ := wd13 (HSTw.out)
                    have hzt : w.heap.size < wr.heap.size := HSTt.out.lt
                    have hzw : w.heap.size + 1 < wr.heap.size := HSTw.out.lt
                    have hcA2 : (A : Int) ≤ (z : Int) := by omega
                    have hcz2 : (z : Int) ≤ (c : Int) := by omega
                    have hcne : ¬ (c = A) := by omega
                    cases sv with
                    | false =>
                      have HFE2 : Hid ((seenTo sees (i + 1)).filter P = (seenTo sees i).filter P) := Lib.hid (by rw [HFE.out]; simp)
                      go_wp2_with fail
                      refine region_text (fun w' => Below (wr).heap.size (wr) w') (by kernel_rfl) (by kernel_rfl) ((Below.refl _ _).drew) (fun KK hKK => ?_)
                      intro OPS
                      try simp only [List.append]
                      repeat (first
                       | (refine' inText_val ?_ ?_ ?_ ?_
                          rotate_left 2
                          · rfl
                          · (intro w' hS; obtain ⟨hcc, hff⟩ := bcell hS; go_simp; first | with_reducible rfl | skip)
                          · (simp only [Act.put, List.setIfInBounds_toArray, List.set_cons_zero, List.set_cons_succ]; with_reducible rfl))
                       | (refine' inText_skip ?_ ?_ ?_
                          rotate_left 1
                          · rfl
                          · (simp only [Act.put, List.setIfInBounds_toArray, List.set_cons_zero, List.set_cons_succ]; with_reducible rfl))
                       | (refine' inText_call ?_ ?_ ?_ ?_ ?_
                          rotate_left 4
                          · rfl
                          · (intro w' hS; obtain ⟨hcc, hff⟩ := bcell hS; go_simp; exact ⟨rfl, rfl⟩)
                          · (intro w' hS
                             first
                              | ((with_reducible refine (HSI.out w' (bl_then HST3.out.bl hS)).mono ?_); exact fun e w'' h => ⟨h.1, bl_then hS h.2⟩))
                          · (simp only [Act.put, List.setIfInBounds_toArray, List.set_cons_zero, List.set_cons_succ]; with_reducible rfl)))
                      refine inText_nil (hKK.out _ (fun w9 hS => ?_))
                      have HB9 := Lib.hid (bl_then HB3.out hS)
                      have HOW9 := Lib.hid (HOW.out.below hS)
                      clear hS hKK OPS
                      clear kt0 kt1 kt2 kt3 kt4 kt5 kt6 kt7 kt8 kt9 kt10 kt11 kt12 kt13 kt14
                      clear b0 b1 b2 b3 b4 b5 b6 b7 b8 b9 bA bB bC
                      clear HSTt HSTw
                      go_wp2_with fail
                      go_roundw
                      case rel => exact ⟨i + 1, j, va, vc, rfl, by go_num, by omega, by omega, Lib.hid (by rw [HFE2.out]; exact HPL.out), Lib.hid (by rw [HFE2.out]; exact HOW9.out), HB9⟩
                      case measure => simp [intOf]; omega
                    | true =>
                      go_wp2_with fail
                      refine region_text (fun w' => Below (wr).heap.size (wr) w') (by kernel_rfl) (by kernel_rfl) ((Below.refl _ _).drew) (fun KK hKK => ?_)
                      intro OPS
                      try simp only [List.append]
                      repeat (first
                       | (refine' inText_val ?_ ?_ ?_ ?_
                          rotate_left 2
                          · rfl
                          · (intro w' hS; obtain ⟨hcc, hff⟩ := bcell hS; go_simp; first | with_reducible rfl | skip)
                          · (simp only [Act.put, List.setIfInBounds_toArray, List.set_cons_zero, List.set_cons_succ]; with_reducible rfl))
                       | (refine' inText_skip ?_ ?_ ?_
                          rotate_left 1
                          · rfl
                          · (simp only [Act.put, List.setIfInBounds_toArray, List.set_cons_zero, List.set_cons_succ]; with_reducible rfl))
                       | (refine' inText_call ?_ ?_ ?_ ?_ ?_
                          rotate_left 4
                          · rfl
                          · (intro w' hS; obtain ⟨hcc, hff⟩ := bcell hS; go_simp; exact ⟨rfl, rfl⟩)
                          · (intro w' hS
                             first
                              | ((with_reducible refine (HSI.out w' (bl_then HST3.out.bl hS)).mono ?_); exact fun e w'' h => ⟨h.1, bl_then hS h.2⟩)
                              | ((with_reducible refine (HISy.out w' (bl_then HST3.out.bl hS)).mono ?_); exact fun e w'' h => ⟨h.1, bl_then hS h.2⟩))
                          · (simp only [Act.put, List.setIfInBounds_toArray, List.set_cons_zero, List.set_cons_succ]; with_reducible rfl)))
                      refine inText_nil (hKK.out _ (fun w9 hS => ?_))
                      have HB9 := Lib.hid (bl_then HB3.out hS)
                      have HOW9 := Lib.hid (HOW.out.below hS)
                      clear hS hKK OPS
                      clear kt0 kt1 kt2 kt3 kt4 kt5 kt6 kt7 kt8 kt9 kt10 kt11 kt12 kt13 kt14
                      clear b0 b1 b2 b3 b4 b5 b6 b7 b8 b9 bA bB bC
                      clear HSTt HSTw
                      cases pv with
                      | false =>
                        have HFE2 : Hid ((seenTo sees (i + 1)).filter P = (seenTo sees i).filter P) := Lib.hid (by rw [HFE.out]; simp)
                        go_wp2_with fail
                        go_roundw
                        case rel => exact ⟨i + 1, j, va, vc, rfl, by go_num, by omega, by omega, Lib.hid (by rw [HFE2.out]; exact HPL.out), Lib.hid (by rw [HFE2.out]; exact HOW9.out), HB9⟩
                        case measure => simp [intOf]; omega
                      | true =>
                        have HFE2 : Hid ((seenTo sees (i + 1)).filter P = (seenTo sees i).filter P ++ [(i : Int)]) := Lib.hid (by rw [HFE.out]; simp)
                        generalize (seenTo sees i).filter P = pre at *
                        have hown : w9.ownsRow (w5).heap.size 3 1 (.slice va j vc) j (pre.map (Value.int .i64)) := by have := HOW9.out.1; rwa [HPL.out] at this
                        have HLO := Lib.hid (ow_lo hown)
                        have HWN := Lib.hid (hown.alloc (.cells #[.int .i64 (i : Int)] 3))
                        have HBA := Lib.hid (bl_a HB9.out (.cells #[.int .i64 (i : Int)] 3))
                        have hzr : (w5).heap.size ≤ w9.heap.size := HB9.out.size
                        clear hown
                        go_wp2_with (at_builtin; refine wpList_append_own _ rfl _ _ 23 rfl (w5).heap.size 3 i0 (.int .i64 0) 1 8 Tryz.underlying23 hi hz0 hz1 hz2 rfl (by decide) _ j (pre.map (Value.int .i64)) rfl HWN.out ⟨w9.heap.size, 0, none⟩ 1 1 [.int .i64 (i : Int)] rfl rfl (int_newS _ _ _) (ow_one rfl) (by unfold maxLen; omega) (by omega) (by simp; omega) ?_; intro v5 wA hown3 hgrow3 _; obtain ⟨g3, cap3, rfl⟩ := ownsRow_succ hown3; have HO3 : Hid (OwnInts (w5).heap.size wA (.slice (some ⟨g3, 0, none⟩) (j + 1) cap3) (pre ++ [(i : Int)])) := Lib.hid ⟨by rw [List.length_append, HPL.out]; simpa using hown3, fun e => by simp at e⟩; have HB5 := Lib.hid (bl_g HBA.out hgrow3 HLO.out); clear hown3 hgrow3)
                        go_roundw
                        case rel => exact ⟨i + 1, j + 1, _, cap3, rfl, by go_num, by omega, by omega, Lib.hid (by rw [HFE2.out, List.length_append, HPL.out]; rfl), Lib.hid (by rw [HFE2.out]; exact HO3.out), HB5⟩
                        case measure => simp [intOf]; omega
                  · obtain rfl : i = t.th.length := by omega
                    generalize (seenTo sees t.th.length).filter P = F at *
                    have HSTt := Lib.hid HST3.out.bt
                    have kt8 := HSTt.out.cell 8
                    simp only [tabC, List.getElem?_cons_zero, List.getElem?_cons_succ] at kt8
                    have HSTs := HST
                    clear HST
                    have HST := HST3
                    clear HST3
                    by_cases hj0 : j = 0
                    · have HPF : Hid (itemN R = ⟨[], z, 11⟩) := Lib.hid (by
                        have h0 : F = [] := List.length_eq_zero_iff.1 (by rw [HPL.out]; exact hj0)
                        rw [HRG.out, h0]; rfl)
                      subst hj0
                      -- world, used (Int), err
                      have HBR : Hid (BK wr (w.heap.size + 1 + 1) [.slice none 0 0, .int .i64 0, .int .i64 0] 36) := Lib.hid HST.out.br
                      obtain ⟨q0, q1, q2, n0, n1, n2⟩ := bk3 HBR.out
                      have hz2 : w.heap.size + 1 + 1 < (wr).heap.size := HBR.out.lt
                      go_upto_region 22 with (fail)
                      repeat ((fail_if_success (with_reducible refine post_mark ?_)); go_step)
                      try clear hwr hwr2
                      generalize hWf : World.setCell _ ⟨w.heap.size + 1 + 1, 2, none⟩ _ = Wf
                      have HFin : BK Wf (w.heap.size + 1 + 1) [.slice none 0 0, .int .i64 (z : Int), .int .i64 11] 36 := by
                       rw [← hWf]
                       have := ((HBR.out.set 0 (.slice none 0 0)).set 1 (.int .i64 (z : Int))).set 2 (.int .i64 11)
                       simp only [List.set_cons_zero, List.set_cons_succ] at this
                       exact this
                      have HLF : Below w.heap.size w Wf := by
                       rw [← hWf]
                       exact bl_s (bl_s (bl_s HST.out.bl _ _) _ _) _ _
                      clear hWf
                      have HLFh := Lib.hid HLF
                      obtain ⟨-, -, -, v0, v1, v2⟩ := bk3 HFin
                      clear HLF
                      rw [HPF.out]
                      refine bodyPost_ret (v := .agg #[.slice none 0 0, .int .i64 (z : Int), .int .i64 11]) ?_ rfl ⟨none, 0, (by first | rfl | (rw [Int.natCast_add]; rfl)), ⟨World.ownsRow_nil _ _ _ _, fun _ => rfl⟩, HLFh.out⟩
                      simp [results, Tryz.results10, go_sem, v0, v1, v2]
                    · by_cases hj1 : 1 < j
                      · have HPF : Hid (itemN R = ⟨[], z, 10⟩) := Lib.hid (by
                          have h1 : 1 < F.length := by rw [HPL.out]; exact hj1
                          rw [HRG.out]
                          cases F with
                          | nil => simp at h1
                          | cons y0 F1 => cases F1 with
                            | nil => simp at h1
                            | cons y1 F2 => rfl)
                        have hj00 : ((j : Int) == 0) = false := by simp; omega
                        have hj11 : (1 : Int) < (j : Int) := by omega
                        -- world, used (Int), err
                        have HBR : Hid (BK wr (w.heap.size + 1 + 1) [.slice none 0 0, .int .i64 0, .int .i64 0] 36) := Lib.hid HST.out.br
                        obtain ⟨q0, q1, q2, n0, n1, n2⟩ := bk3 HBR.out
                        have hz2 : w.heap.size + 1 + 1 < (wr).heap.size := HBR.out.lt
                        go_upto_region 24 with (fail)
                        repeat ((fail_if_success (with_reducible refine post_mark ?_)); go_step)
                        try clear hwr hwr2
                        generalize hWf : World.setCell _ ⟨w.heap.size + 1 + 1, 2, none⟩ _ = Wf
                        have HFin : BK Wf (w.heap.size + 1 + 1) [.slice none 0 0, .int .i64 (z : Int), .int .i64 10] 36 := by
                         rw [← hWf]
                         have := ((HBR.out.set 0 (.slice none 0 0)).set 1 (.int .i64 (z : Int))).set 2 (.int .i64 10)
                         simp only [List.set_cons_zero, List.set_cons_succ] at this
                         exact this
                        have HLF : Below w.heap.size w Wf := by
                         rw [← hWf]
                         exact bl_s (bl_s (bl_s HST.out.bl _ _) _ _) _ _
                        clear hWf
                        have HLFh := Lib.hid HLF
                        obtain ⟨-, -, -, v0, v1, v2⟩ := bk3 HFin
                        clear HLF
                        rw [HPF.out]
                        refine bodyPost_ret (v := .agg #[.slice none 0 0, .int .i64 (z : Int), .int .i64 10]) ?_ rfl ⟨none, 0, (by first | rfl | (rw [Int.natCast_add]; rfl)), ⟨World.ownsRow_nil _ _ _ _, fun _ => rfl⟩, HLFh.out⟩
                        simp [results, Tryz.results10, go_sem, v0, v1, v2]
                      · obtain rfl : j = 1 := by omega
                        obtain ⟨y0, hy0⟩ : ∃ y0, F = [y0] := List.length_eq_one_iff.1 HPL.out
                        subst hy0
                        have HPF : Hid (itemN R = ⟨[y0], z, 0⟩) := Lib.hid (by rw [HRG.out]; rfl)
                        have HBR : Hid (BK wr (w.heap.size + 1 + 1) [.slice none 0 0, .int .i64 0, .int .i64 0] 36) := Lib.hid HST.out.br
                        obtain ⟨q0, q1, q2, n0, n1, n2⟩ := bk3 HBR.out
                        have hz2' : w.heap.size + 1 + 1 < wr.heap.size := HBR.out.lt
                        have HBX := HBR
                        have HBY := Lib.hid HST.out.bl
                        have HOB := HZW
                        go_wp2_with fail
                        -- address, capacity, list, used (Int); HBX: the result's block, HBY: Below, HOW: the row, from BB on
                        generalize hWf : World.setCell _ ⟨w.heap.size + 1 + 1, 2, none⟩ _ = Wf
                        have HFin : BK Wf (w.heap.size + 1 + 1) [.slice va ([y0]).length vc, .int .i64 (z : Int), .int .i64 0] 36 := by
                         rw [← hWf]
                         have := ((HBX.out.set 0 (.slice va ([y0]).length vc)).set 1 (.int .i64 (z : Int))).set 2 (.int .i64 0)
                         simp only [List.set_cons_zero, List.set_cons_succ] at this
                         exact this
                        have HLF : Below w.heap.size w Wf := by
                         rw [← hWf]
                         exact bl_s (bl_s (bl_s HBY.out _ _) _ _) _ _
                        have HOWf : Hid (OwnInts w.heap.size Wf (.slice va ([y0]).length vc) [y0]) := Lib.hid (by
                         rw [← hWf]
                         exact (((HOW.out.set HOB.out 0 _).set HOB.out 1 _).set HOB.out 2 _).base (Nat.le_of_lt (Nat.lt_of_le_of_lt (by omega) HOB.out)))
                        clear hWf
                        have HLFh := Lib.hid HLF
                        obtain ⟨-, -, -, v0, v1, v2⟩ := bk3 HFin
                        clear HLF
                        rw [HPF.out]
                        refine bodyPost_ret (v := .agg #[.slice va ([y0]).length vc, .int .i64 (z : Int), .int .i64 0]) ?_ rfl ⟨va, vc, rfl, HOWf.out, HLFh.out⟩
                        simp [results, Tryz.results10, go_sem, v0, v1, v2]
          · obtain rfl : z = m := by omega
            have HTW : Hid ((((ws.map keyW).drop (artN (ws.map keyW))).takeWhile (knownN t (seenTo sees t.th.length))).length = z - A) := Lib.hid (by
             rw [HAN1.out]
             refine tw_len _ _ _ (by rw [List.length_drop, List.length_map, HWM.out]; omega) (fun j hj hjz => ?_) (fun hj => ?_)
             · rw [List.getElem_drop, List.getElem_map]; exact HI.out _ (by rw [List.length_drop, List.length_map] at hj; omega) (by omega) (by omega)
             · rw [List.length_drop, List.length_map, HWM.out] at hj; omega)
            go_wp2_with fail
            refine region_text (fun w' => Below (wo).heap.size (wo) w') (by kernel_rfl) (by kernel_rfl) ((Below.refl _ _).drew) (fun KK hKK => ?_)
            intro OPS
            try simp only [List.append]
            repeat (first
             | (refine' inText_val ?_ ?_ ?_ ?_
                rotate_left 2
                · rfl
                · (intro w' hS; obtain ⟨hcc, hff⟩ := bcell hS; go_simp; first | with_reducible rfl | skip)
                · (simp only [Act.put, List.setIfInBounds_toArray, List.set_cons_zero, List.set_cons_succ]; with_reducible rfl))
             | (refine' inText_skip ?_ ?_ ?_
                rotate_left 1
                · rfl
                · (simp only [Act.put, List.setIfInBounds_toArray, List.set_cons_zero, List.set_cons_succ]; with_reducible rfl))
             | (refine' inText_call ?_ ?_ ?_ ?_ ?_
                rotate_left 4
                · rfl
                · (intro w' hS; obtain ⟨hcc, hff⟩ := bcell hS; go_simp; exact ⟨rfl, rfl⟩)
                · (intro w' hS
                   first
                    | (fail))
                · (simp only [Act.put, List.setIfInBounds_toArray, List.set_cons_zero, List.set_cons_succ]; with_reducible rfl)))
            refine inText_nil (hKK.out _ (fun w5 hS => ?_))
            have HST5 := Lib.hid (HST.out.below hS)
            clear hS hKK OPS
            clear HST HB
            have HST := HST5
            clear HST5
            have hzz : ¬ (z = A) := by omega
            as_aux_lemma =>
             -- A; the world
             have ez : ((z : Int) == (A : Int)) = false := by simp; omega
             have HRG : Hid (R = resN ((seenTo sees t.th.length).filter (fun y => isN t y (((ws.map keyW).drop A).take (z - A)))) z) := Lib.hid (by
              rw [← HR.out]
              have := one_go (t := t) (seen := seenTo sees t.th.length) (sit := sees q.it) (it := q.it) HDR.out HNK.out HTW.out (by omega)
              rw [this, HAN1.out, show A + (z - A) = z by omega])
             have hln : ((ws.drop A).take (z - A)).length = z - A := by rw [List.length_take, List.length_drop, HWM.out]; omega
             have hmk : ((ws.drop A).take (z - A)).map keyW = ((ws.map keyW).drop A).take (z - A) := by rw [List.map_take, List.map_drop]
             have HISP := Lib.hid (fun y w' (hb : Below w.heap.size w w') => HIS.out y (some ⟨b, o + A, none⟩) ((ws.drop A).take (z - A)) (c - A) w' hb ((HWD.out w' hb).mid A (z - A) (by rw [HWM.out]; omega)) (by rw [hln]; unfold maxLen; omega))
             rw [hln, hmk] at HISP
             try simp only [Nat.add_zero, Nat.sub_zero] at HISP
             obtain ⟨P, hP⟩ : ∃ P : Int → Bool, (fun y => isN t y (((ws.map keyW).drop A).take (z - A))) = P := ⟨_, rfl⟩
             have HP : Hid (∀ y, isN t y (((ws.map keyW).drop A).take (z - A)) = P y) := Lib.hid (fun y => by rw [← hP])
             try simp only [Nat.sub_zero] at HP
             rw [hP] at HRG
             clear hln hmk hP
             have HZW : Hid (w.heap.size + 1 + 1 < (w5).heap.size) := Lib.hid HST.out.br.lt
             have HS0 : Hid (seenTo sees 1 = []) := Lib.hid (by rw [seen_succ]; rfl)
             go_wp2_with fail
             clear ez
             go_loopw [9, 10] (fun ov iv wr3 => ∃ (i j : Nat) (va : Option Addr) (vc : Nat), ov = .slice va j vc ∧ iv = .int .i64 i ∧ 1 ≤ i ∧ i ≤ t.th.length ∧ Hid (((seenTo sees i).filter P).length = j) ∧ Hid (OwnInts (w5).heap.size wr3 (.slice va j vc) ((seenTo sees i).filter P)) ∧ Hid (Below (w5).heap.size w5 wr3)) (fun _ iv _ => t.th.length - (intOf iv).toNat)
             case atStart => exact ⟨1, 0, none, 0, rfl, rfl, Nat.le_refl _, by omega, Lib.hid (by rw [HS0.out]; rfl), Lib.hid (by rw [HS0.out]; exact ⟨World.ownsRow_nil _ _ _ _, fun _ => rfl⟩), Lib.hid (Below.refl _ _)⟩
             case round =>
              obtain ⟨i, j, va, vc, rfl, rfl, hi1, hil, HPL, HOW, HB3⟩ := hrel
              have HST3 := Lib.hid (HST.out.below HB3.out)
              by_cases hi3 : i < t.th.length
              · have hi32 : (i : Int) < (t.th.length : Int) := by omega
                have HSS := Lib.hid (seen_succ sees i)
                have HSI := Lib.hid (HSE.out (i : Int))
                have HISy := Lib.hid (HISP.out (i : Int))
                obtain ⟨sv, hsv⟩ : ∃ r, sees (i : Int) = r := ⟨_, rfl⟩
                obtain ⟨pv, hpv⟩ : ∃ r, P (i : Int) = r := ⟨_, rfl⟩
                rw [HP.out, hpv] at HISy
                rw [hsv] at HSI
                have HFE : Hid ((seenTo sees (i + 1)).filter P = (seenTo sees i).filter P ++ (if (sv && pv) = true then [(i : Int)] else [])) := Lib.hid (by
                 rw [HSS.out, hsv, show decide (0 < (i : Int)) = true by rw [decide_eq_true_eq]; omega, List.filter_append, Bool.true_and]
                 congr 1
                 cases sv with
                 | false => simp
                 | true => cases pv with
                   | false => simp [hpv]
                   | true => simp [hpv])
                have hj : j ≤ 1000 := by
                 have h1 := List.length_filter_le P (seenTo sees i)
                 have h2 := seen_len sees i
                 rw [HPL.out] at h1
                 omega
                clear hsv hpv HSS
                have HSTt := Lib.hid HST3.out.bt
                have HSTw := Lib.hid HST3.out.bw
                obtain ⟨kt0, kt1, kt2, kt3, kt4, kt5, kt6, kt7, kt8, kt9, kt10, kt11, kt12, kt13, kt14⟩ := tab15 (HSTt.out)
                obtain ⟨b0, b1, b2, b3, b4, b5, b6, b7, b8, b9, bA, bB, bC⟩ := wd13 (HSTw.out)
                have hzt : w.heap.size < wr.heap.size := HSTt.out.lt
                have hzw : w.heap.size + 1 < wr.heap.size := HSTw.out.lt
                have hcA2 : (A : Int) ≤ (z : Int) := by omega
                have hcz2 : (z : Int) ≤ (c : Int) := by omega
                have hcne : ¬ (c = A) := by omega
                cases sv with
                | false =>
                  have HFE2 : Hid ((seenTo sees (i + 1)).filter P = (seenTo sees i).filter P) := Lib.hid (by rw [HFE.out]; simp)
                  go_wp2_with fail
                  refine region_text (fun w' => Below (wr).heap.size (wr) w') (by kernel_rfl) (by kernel_rfl) ((Below.refl _ _).drew) (fun KK hKK => ?_)
                  intro OPS
                  try simp only [List.append]
                  repeat (first
                   | (refine' inText_val ?_ ?_ ?_ ?_
                      rotate_left 2
                      · rfl
                      · (intro w' hS; obtain ⟨hcc, hff⟩ := bcell hS; go_simp; first | with_reducible rfl | skip)
                      · (simp only [Act.put, List.setIfInBounds_toArray, List.set_cons_zero, List.set_cons_succ]; with_reducible rfl))
                   | (refine' inText_skip ?_ ?_ ?_
                      rotate_left 1
                      · rfl
                      · (simp only [Act.put, List.setIfInBounds_toArray, List.set_cons_zero, List.set_cons_succ]; with_reducible rfl))
                   | (refine' inText_call ?_ ?_ ?_ ?_ ?_
                      rotate_left 4
                      · rfl
                      · (intro w' hS; obtain ⟨hcc, hff⟩ := bcell hS; go_simp; exact ⟨rfl, rfl⟩)
                      · (intro w' hS
                         first
                          | ((with_reducible refine (HSI.out w' (bl_then HST3.out.bl hS)).mono ?_); exact fun e w'' h => ⟨h.1, bl_then hS h.2⟩))
                      · (simp only [Act.put, List.setIfInBounds_toArray, List.set_cons_zero, List.set_cons_succ]; with_reducible rfl)))
                  refine inText_nil (hKK.out _ (fun w9 hS => ?_))
                  have HB9 := Lib.hid (bl_then HB3.out hS)
                  have HOW9 := Lib.hid (HOW.out.below hS)
                  clear hS hKK OPS
                  clear kt0 kt1 kt2 kt3 kt4 kt5 kt6 kt7 kt8 kt9 kt10 kt11 kt12 kt13 kt14
                  clear b0 b1 b2 b3 b4 b5 b6 b7 b8 b9 bA bB bC
                  clear HSTt HSTw
                  go_wp2_with fail
                  go_roundw
                  case rel => exact ⟨i + 1, j, va, vc, rfl, by go_num, by omega, by omega, Lib.hid (by rw [HFE2.out]; exact HPL.out), Lib.hid (by rw [HFE2.out]; exact HOW9.out), HB9⟩
                  case measure => simp [intOf]; omega
                | true =>
                  go_wp2_with fail
                  refine region_text (fun w' => Below (wr).heap.size (wr) w') (by kernel_rfl) (by kernel_rfl) ((Below.refl _ _).drew) (fun KK hKK => ?_)
                  intro OPS
                  try simp only [List.append]
                  repeat (first
                   | (refine' inText_val ?_ ?_ ?_ ?_
                      rotate_left 2
                      · rfl
                      · (intro w' hS; obtain ⟨hcc, hff⟩ := bcell hS; go_simp; first | with_reducible rfl | skip)
                      · (simp only [Act.put, List.setIfInBounds_toArray, List.set_cons_zero, List.set_cons_succ]; with_reducible rfl))
                   | (refine' inText_skip ?_ ?_ ?_
                      rotate_left 1
                      · rfl
                      · (simp only [Act.put, List.setIfInBounds_toArray, List.set_cons_zero, List.set_cons_succ]; with_reducible rfl))
                   | (refine' inText_call ?_ ?_ ?_ ?_ ?_
                      rotate_left 4
                      · rfl
                      · (intro w' hS; obtain ⟨hcc, hff⟩ := bcell hS; go_simp; exact ⟨rfl, rfl⟩)
                      · (intro w' hS
                         first
                          | ((with_reducible refine (HSI.out w' (bl_then HST3.out.bl hS)).mono ?_); exact fun e w'' h => ⟨h.1, bl_then hS h.2⟩)
                          | ((with_reducible refine (HISy.out w' (bl_then HST3.out.bl hS)).mono ?_); exact fun e w'' h => ⟨h.1, bl_then hS h.2⟩))
                      · (simp only [Act.put, List.setIfInBounds_toArray, List.set_cons_zero, List.set_cons_succ]; with_reducible rfl)))
                  refine inText_nil (hKK.out _ (fun w9 hS => ?_))
                  have HB9 := Lib.hid (bl_then HB3.out hS)
                  have HOW9 := Lib.hid (HOW.out.below hS)
                  clear hS hKK OPS
                  clear kt0 kt1 kt2 kt3 kt4 kt5 kt6 kt7 kt8 kt9 kt10 kt11 kt12 kt13 kt14
                  clear b0 b1 b2 b3 b4 b5 b6 b7 b8 b9 bA bB bC
                  clear HSTt HSTw
                  cases pv with
                  | false =>
                    have HFE2 : Hid ((seenTo sees (i + 1)).filter P = (seenTo sees i).filter P) := Lib.hid (by rw [HFE.out]; simp)
                    go_wp2_with fail
                    go_roundw
                    case rel => exact ⟨i + 1, j, va, vc, rfl, by go_num, by omega, by omega, Lib.hid (by rw [HFE2.out]; exact HPL.out), Lib.hid (by rw [HFE2.out]; exact HOW9.out), HB9⟩
                    case measure => simp [intOf]; omega
                  | true =>
                    have HFE2 : Hid ((seenTo sees (i + 1)).filter P = (seenTo sees i).filter P ++ [(i : Int)]) := Lib.hid (by rw [HFE.out]; simp)
                    generalize (seenTo sees i).filter P = pre at *
                    have hown : w9.ownsRow (w5).heap.size 3 1 (.slice va j vc) j (pre.map (Value.int .i64)) := by have := HOW9.out.1; rwa [HPL.out] at this
                    have HLO := Lib.hid (ow_lo hown)
                    have HWN := Lib.hid (hown.alloc (.cells #[.int .i64 (i : Int)] 3))
                    have HBA := Lib.hid (bl_a HB9.out (.cells #[.int .i64 (i : Int)] 3))
                    have hzr : (w5).heap.size ≤ w9.heap.size := HB9.out.size
                    clear hown
                    go_wp2_with (at_builtin; refine wpList_append_own _ rfl _ _ 23 rfl (w5).heap.size 3 i0 (.int .i64 0) 1 8 Tryz.underlying23 hi hz0 hz1 hz2 rfl (by decide) _ j (pre.map (Value.int .i64)) rfl HWN.out ⟨w9.heap.size, 0, none⟩ 1 1 [.int .i64 (i : Int)] rfl rfl (int_newS _ _ _) (ow_one rfl) (by unfold maxLen; omega) (by omega) (by simp; omega) ?_; intro v5 wA hown3 hgrow3 _; obtain ⟨g3, cap3, rfl⟩ := ownsRow_succ hown3; have HO3 : Hid (OwnInts (w5).heap.size wA (.slice (some ⟨g3, 0, none⟩) (j + 1) cap3) (pre ++ [(i : Int)])) := Lib.hid ⟨by rw [List.length_append, HPL.out]; simpa using hown3, fun e => by simp at e⟩; have HB5 := Lib.hid (bl_g HBA.out hgrow3 HLO.out); clear hown3 hgrow3)
                    go_roundw
                    case rel => exact ⟨i + 1, j + 1, _, cap3, rfl, by go_num, by omega, by omega, Lib.hid (by rw [HFE2.out, List.length_append, HPL.out]; rfl), Lib.hid (by rw [HFE2.out]; exact HO3.out), HB5⟩
                    case measure => simp [intOf]; omega
              · obtain rfl : i = t.th.length := by omega
                generalize (seenTo sees t.th.length).filter P = F at *
                have HSTt := Lib.hid HST3.out.bt
                have kt8 := HSTt.out.cell 8
                simp only [tabC, List.getElem?_cons_zero, List.getElem?_cons_succ] at kt8
                have HSTs := HST
                clear HST
                have HST := HST3
                clear HST3
                by_cases hj0 : j = 0
                · have HPF : Hid (itemN R = ⟨[], z, 11⟩) := Lib.hid (by
                    have h0 : F = [] := List.length_eq_zero_iff.1 (by rw [HPL.out]; exact hj0)
                    rw [HRG.out, h0]; rfl)
                  subst hj0
                  -- world, used (Int), err
                  have HBR : Hid (BK wr (w.heap.size + 1 + 1) [.slice none 0 0, .int .i64 0, .int .i64 0] 36) := Lib.hid HST.out.br
                  obtain ⟨q0, q1, q2, n0, n1, n2⟩ := bk3 HBR.out
                  have hz2 : w.heap.size + 1 + 1 < (wr).heap.size := HBR.out.lt
                  go_upto_region 22 with (fail)
                  repeat ((fail_if_success (with_reducible refine post_mark ?_)); go_step)
                  try clear hwr hwr2
                  generalize hWf : World.setCell _ ⟨w.heap.size + 1 + 1, 2, none⟩ _ = Wf
                  have HFin : BK Wf (w.heap.size + 1 + 1) [.slice none 0 0, .int .i64 (z : Int), .int .i64 11] 36 := by
                   rw [← hWf]
                   have := ((HBR.out.set 0 (.slice none 0 0)).set 1 (.int .i64 (z : Int))).set 2 (.int .i64 11)
                   simp only [List.set_cons_zero, List.set_cons_succ] at this
                   exact this
                  have HLF : Below w.heap.size w Wf := by
                   rw [← hWf]
                   exact bl_s (bl_s (bl_s HST.out.bl _ _) _ _) _ _
                  clear hWf
                  have HLFh := Lib.hid HLF
                  obtain ⟨-, -, -, v0, v1, v2⟩ := bk3 HFin
                  clear HLF
                  rw [HPF.out]
                  refine bodyPost_ret (v := .agg #[.slice none 0 0, .int .i64 (z : Int), .int .i64 11]) ?_ rfl ⟨none, 0, (by first | rfl | (rw [Int.natCast_add]; rfl)), ⟨World.ownsRow_nil _ _ _ _, fun _ => rfl⟩, HLFh.out⟩
                  simp [results, Tryz.results10, go_sem, v0, v1, v2]
                · by_cases hj1 : 1 < j
                  · have HPF : Hid (itemN R = ⟨[], z, 10⟩) := Lib.hid (by
                      have h1 : 1 < F.length := by rw [HPL.out]; exact hj1
                      rw [HRG.out]
                      cases F with
                      | nil => simp at h1
                      | cons y0 F1 => cases F1 with
                        | nil => simp at h1
                        | cons y1 F2 => rfl)
                    have hj00 : ((j : Int) == 0) = false := by simp; omega
                    have hj11 : (1 : Int) < (j : Int) := by omega
                    -- world, used (Int), err
                    have HBR : Hid (BK wr (w.heap.size + 1 + 1) [.slice none 0 0, .int .i64 0, .int .i64 0] 36) := Lib.hid HST.out.br
                    obtain ⟨q0, q1, q2, n0, n1, n2⟩ := bk3 HBR.out
                    have hz2 : w.heap.size + 1 + 1 < (wr).heap.size := HBR.out.lt
                    go_upto_region 24 with (fail)
                    repeat ((fail_if_success (with_reducible refine post_mark ?_)); go_step)
                    try clear hwr hwr2
                    generalize hWf : World.setCell _ ⟨w.heap.size + 1 + 1, 2, none⟩ _ = Wf
                    have HFin : BK Wf (w.heap.size + 1 + 1) [.slice none 0 0, .int .i64 (z : Int), .int .i64 10] 36 := by
                     rw [← hWf]
                     have := ((HBR.out.set 0 (.slice none 0 0)).set 1 (.int .i64 (z : Int))).set 2 (.int .i64 10)
                     simp only [List.set_cons_zero, List.set_cons_succ] at this
                     exact this
                    have HLF : Below w.heap.size w Wf := by
                     rw [← hWf]
                     exact bl_s (bl_s (bl_s HST.out.bl _ _) _ _) _ _
                    clear hWf
                    have HLFh := Lib.hid HLF
                    obtain ⟨-, -, -, v0, v1, v2⟩ := bk3 HFin
                    clear HLF
                    rw [HPF.out]
                    refine bodyPost_ret (v := .agg #[.slice none 0 0, .int .i64 (z : Int), .int .i64 10]) ?_ rfl ⟨none, 0, (by first | rfl | (rw [Int.natCast_add]; rfl)), ⟨World.ownsRow_nil _ _ _ _, fun _ => rfl⟩, HLFh.out⟩
                    simp [results, Tryz.results10, go_sem, v0, v1, v2]
                  · obtain rfl : j = 1 := by omega
                    obtain ⟨y0, hy0⟩ : ∃ y0, F = [y0] := List.length_eq_one_iff.1 HPL.out
                    subst hy0
                    have HPF : Hid (itemN R = ⟨[y0], z, 0⟩) := Lib.hid (by rw [HRG.out]; rfl)
                    have HBR : Hid (BK wr (w.heap.size + 1 + 1) [.slice none 0 0, .int .i64 0, .int .i64 0] 36) := Lib.hid HST.out.br
                    obtain ⟨q0, q1, q2, n0, n1, n2⟩ := bk3 HBR.out
                    have hz2' : w.heap.size + 1 + 1 < wr.heap.size := HBR.out.lt
                    have HBX := HBR
                    have HBY := Lib.hid HST.out.bl
                    have HOB := HZW
                    go_wp2_with fail
                    -- address, capacity, list, used (Int); HBX: the result's block, HBY: Below, HOW: the row, from BB on
                    generalize hWf : World.setCell _ ⟨w.heap.size + 1 + 1, 2, none⟩ _ = Wf
                    have HFin : BK Wf (w.heap.size + 1 + 1) [.slice va ([y0]).length vc, .int .i64 (z : Int), .int .i64 0] 36 := by
                     rw [← hWf]
                     have := ((HBX.out.set 0 (.slice va ([y0]).length vc)).set 1 (.int .i64 (z : Int))).set 2 (.int .i64 0)
                     simp only [List.set_cons_zero, List.set_cons_succ] at this
                     exact this
                    have HLF : Below w.heap.size w Wf := by
                     rw [← hWf]
                     exact bl_s (bl_s (bl_s HBY.out _ _) _ _) _ _
                    have HOWf : Hid (OwnInts w.heap.size Wf (.slice va ([y0]).length vc) [y0]) := Lib.hid (by
                     rw [← hWf]
                     exact (((HOW.out.set HOB.out 0 _).set HOB.out 1 _).set HOB.out 2 _).base (Nat.le_of_lt (Nat.lt_of_le_of_lt (by omega) HOB.out)))
                    clear hWf
                    have HLFh := Lib.hid HLF
                    obtain ⟨-, -, -, v0, v1, v2⟩ := bk3 HFin
                    clear HLF
                    rw [HPF.out]
                    refine bodyPost_ret (v := .agg #[.slice va ([y0]).length vc, .int .i64 (z : Int), .int .i64 0]) ?_ rfl ⟨va, vc, rfl, HOWf.out, HLFh.out⟩
                    simp [results, Tryz.results10, go_sem, v0, v1, v2]
end Go.Proofs.YtjggklfegcejhaaGreat
