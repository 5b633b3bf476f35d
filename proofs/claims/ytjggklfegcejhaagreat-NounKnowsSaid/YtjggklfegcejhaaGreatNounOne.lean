/- Contract of noun.one. -/
import Derived.Test.YtjggklfegcejhaaGreatNounKnown
import Derived.Test.YtjggklfegcejhaaGreatNounArt
import Derived.Test.YtjggklfegcejhaaGreatVis
import Derived.Test.YtjggklfegcejhaaGreatRef20
namespace Go.Proofs.YtjggklfegcejhaaGreat
open Go.RowKit Go.PlainAid
set_option linter.unusedVariables false
set_option linter.unusedSimpArgs false

/-- The things that are seen, of so many. -/
def seenTo (sees : Int → Bool) (i : Nat) : List Int := ((List.range i).map (fun k : Nat => (k : Int))).filter (fun x => decide (0 < x) && sees x)
theorem seen_succ (sees : Int → Bool) (i : Nat) : seenTo sees (i + 1) = seenTo sees i ++ (if (decide (0 < (i : Int)) && sees (i : Int)) = true then [(i : Int)] else []) := by
  unfold seenTo
  rw [List.range_succ, List.map_append, List.filter_append]
  congr 1
  cases h : (decide (0 < (i : Int)) && sees (i : Int)) <;> simp only [List.map_cons, List.map_nil, List.filter_cons, List.filter_nil, h, if_true, if_false, Bool.false_eq_true]
theorem seen_mem {sees : Int → Bool} {i : Nat} {y : Int} (h : y ∈ seenTo sees i) : 1 ≤ y ∧ y < (i : Int) ∧ sees y = true := by
  unfold seenTo at h
  rw [List.mem_filter] at h
  obtain ⟨h1, h2⟩ := h
  obtain ⟨k, hk, rfl⟩ := List.mem_map.1 h1
  have := List.mem_range.1 hk
  simp only [Bool.and_eq_true, decide_eq_true_eq] at h2
  exact ⟨by omega, by omega, h2.2⟩
theorem seen_len (sees : Int → Bool) (i : Nat) : (seenTo sees i).length ≤ i := by
  unfold seenTo
  refine Nat.le_trans (List.length_filter_le _ _) ?_
  simp
theorem one_short {t : TbC} {seen : List Int} {sit : Bool} {it : Int} {ks : List TxC} (h : ks.drop (artN ks) = []) : oneN t seen sit it ks = (0, 0, 2) := by unfold oneN; rw [h]
theorem one_it {t : TbC} {seen : List Int} {sit : Bool} {it : Int} {ks r : List TxC} (h : ks.drop (artN ks) = itK :: r) : oneN t seen sit it ks = if sit = true then (it, artN ks + 1, 0) else (0, artN ks + 1, 11) := by
  unfold oneN; rw [h]; simp only [if_true]
theorem one_none {t : TbC} {seen : List Int} {sit : Bool} {it : Int} {ks r : List TxC} {k : TxC} (h : ks.drop (artN ks) = k :: r) (hk : k ≠ itK) (hm : ((ks.drop (artN ks)).takeWhile (knownN t seen)).length = 0) : oneN t seen sit it ks = (0, artN ks, 11) := by
  rw [h] at hm
  unfold oneN; rw [h]; simp only [if_neg hk, hm, if_true]
theorem one_go {t : TbC} {seen : List Int} {sit : Bool} {it : Int} {ks r : List TxC} {k : TxC} {m : Nat} (h : ks.drop (artN ks) = k :: r) (hk : k ≠ itK) (hm : ((ks.drop (artN ks)).takeWhile (knownN t seen)).length = m) (h0 : m ≠ 0) :
    oneN t seen sit it ks = resN (seen.filter (fun x => isN t x ((ks.drop (artN ks)).take m))) (artN ks + m) := by
  rw [h] at hm ⊢
  unfold oneN
  simp only [h, if_neg hk, hm, if_neg h0]
theorem tw_len {α : Type} (p : α → Bool) : ∀ (l : List α) (m : Nat) (hm : m ≤ l.length), (∀ j (h : j < l.length), j < m → p l[j] = true) → (∀ h : m < l.length, p l[m] = false) → (l.takeWhile p).length = m
  | [], m, hm, _, _ => by simp at hm; subst hm; rfl
  | a :: l, 0, hm, _, h2 => by
    have := h2 (by simp)
    simp only [List.getElem_cons_zero] at this
    rw [List.takeWhile_cons, this]; rfl
  | a :: l, m + 1, hm, h1, h2 => by
    have h := h1 0 (by simp) (by omega)
    simp only [List.getElem_cons_zero] at h
    rw [List.takeWhile_cons, h]
    simp only [if_true, List.length_cons]
    rw [tw_len p l m (by simpa using hm) (fun j hj hjm => by have := h1 (j + 1) (by simpa using hj) (by omega); simpa using this) (fun hj => by have := h2 (by simpa using hj); simpa using this)]
theorem drop_cons {l : List TxC} {A : Nat} (h : A < l.length) : l.drop A = l[A] :: l.drop (A + 1) := List.drop_eq_getElem_cons h
/-- Words in the middle of others. -/
theorem Wds.mid {w : World} {b o : Nat} {l : List TxC} (h : Wds w (some ⟨b, o, none⟩) l) (A m : Nat) (hA : A + m ≤ l.length) : Wds w (some ⟨b, o + A, none⟩) ((l.drop A).take m) := by
  refine ⟨fun s hs => h.1 s (List.mem_of_mem_drop (List.mem_of_mem_take hs)), fun hn => ?_⟩
  have hl : ((l.drop A).take m).length = m := by rw [List.length_take, List.length_drop]; omega
  obtain ⟨b', o', e, h1, h2⟩ := h.2 (by omega)
  simp only [Option.some.injEq, Addr.mk.injEq, and_true] at e
  obtain ⟨rfl, rfl⟩ := e
  refine ⟨b, o + A, rfl, h1, fun i hi => ?_⟩
  rw [hl] at hi
  have := h2 (A + i) (by omega)
  rw [← Nat.add_assoc] at this
  rw [this]
  simp [List.getElem_take, List.getElem_drop]
/-- What lies between two rounds. -/
structure OSt (x : TAd) (t : TbC) (q : Wv) (s : Nat) (w wr : World) (v : Value) (L : List Int) : Prop where
  bt : BK wr s (tabC x t) 28
  bw : BK wr (s + 1) (worldC q) 31
  bo : Boxed wr (s + 2) 23 v
  row : OwnInts (s + 3) wr v L
  bl : Below s w wr
theorem OSt.below {x : TAd} {t : TbC} {q : Wv} {s : Nat} {w wr w' : World} {v : Value} {L : List Int} (h : OSt x t q s w wr v L) (hb : Below wr.heap.size wr w') : OSt x t q s w w' v L :=
  ⟨h.bt.below hb, h.bw.below hb, h.bo.kept (gr_below hb (r := none)) (by simp), h.row.below hb, h.bl.trans (hb.mono (by have := h.bt.lt; omega))⟩
theorem OSt.add {x : TAd} {t : TbC} {q : Wv} {s : Nat} {w wr w3 : World} {va : Option Addr} {vc : Nat} {v3 : Value} {L : List Int} {c : Int} {o : Obj} (h : OSt x t q s w wr (.slice va L.length vc) L)
    (hg : (wr.alloc o).grownBy w3 (Value.slice va L.length vc).ownBlock) (hown : w3.ownsRow (s + 3) 3 1 v3 (L.length + 1) (L.map (Value.int .i64) ++ [.int .i64 c])) :
    OSt x t q s w (w3.setCell ⟨s + 2, 0, none⟩ v3) v3 (L ++ [c]) := by
  have hlo : ∀ j, (Value.slice va L.length vc).ownBlock = some j → s + 3 ≤ j := fun j hj => ow_lo h.row.1 j hj
  have hne : some (s + 2) ≠ (Value.slice va L.length vc).ownBlock := fun e => by have := hlo _ e.symm; omega
  have hz : s + 2 < wr.heap.size := h.bo.lt
  refine ⟨((h.bt.alloc o).kept hg (fun j hj => by have := hlo j hj; omega)).setO (by omega) _ _, ((h.bw.alloc o).kept hg (fun j hj => by have := hlo j hj; omega)).setO (by omega) _ _, ((h.bo.alloc o).kept hg hne).set _, ⟨?_, fun e => by simp at e⟩, ?_⟩
  · have := hown.kept (gr_set w3 (s + 2) 0 v3) (.inr (fun e => by have := ow_lo hown _ e; omega))
    simpa using this
  · exact ((h.bl.trans ((bl_a (Below.refl wr.heap.size wr) o).mono (by omega))).grown hg (by rw [World.size_alloc]; omega) (fun j hj => by have := hlo j hj; omega)).setCell (p := ⟨s + 2, 0, none⟩) (by show s ≤ s + 2; omega) _
set_option maxRecDepth 100000 in
set_option maxHeartbeats 8000000 in
theorem oneC (x : TAd) (t : TbC) (q : Wv) (d : WdC) (a : Option Addr) (ws : List TxC) (c : Nat) (w : World) (ht : TabIs w x t) (hW : WOk w q d t.th.length) (hL : ∀ y, (reachV d t.th.length y).length ≤ 1000000)
    (hw : Wds w a ws) (hc : ws.length ≤ c) (hwl : ws.length ≤ 1000) :
    Calls Tryz.prog 22 #[tabV x t, worldV q, .slice a ws.length c] w fun e w' => e = .returned (.tuple #[.int .i64 (oneN t (seenTo (seesN d t.th.length) t.th.length) (isW t.th.length q.it && seesN d t.th.length q.it) q.it (ws.map keyW)).1, .int .i64 (oneN t (seenTo (seesN d t.th.length) t.th.length) (isW t.th.length q.it && seesN d t.th.length q.it) q.it (ws.map keyW)).2.1, .int .i64 (oneN t (seenTo (seesN d t.th.length) t.th.length) (isW t.th.length q.it && seesN d t.th.length q.it) q.it (ws.map keyW)).2.2]) ∧ Below w.heap.size w w' := by
  obtain ⟨W0, hW0⟩ : ∃ W0, ((w.alloc (.cells (tabC x t).toArray 28)).alloc (.cells (worldC q).toArray 31)).alloc (.cells #[.slice none 0 0] 23) = W0 := ⟨_, rfl⟩
  have z1 : (w.alloc (.cells (tabC x t).toArray 28)).heap.size = w.heap.size + 1 := World.size_alloc _ _
  have z2 : ((w.alloc (.cells (tabC x t).toArray 28)).alloc (.cells (worldC q).toArray 31)).heap.size = w.heap.size + 2 := by rw [World.size_alloc, z1]
  have HST : Hid (OSt x t q w.heap.size w W0 (.slice none 0 0) []) := Lib.hid (by
    rw [← hW0]
    refine ⟨((BK.new w (tabC x t) 28).alloc _).alloc _, ?_, ?_, ⟨World.ownsRow_nil _ _ _ _, fun _ => rfl⟩, bl_a (bl_a (bl_a (Below.refl _ _) _) _) _⟩
    · have := BK.new (w.alloc (.cells (tabC x t).toArray 28)) (worldC q) 31
      rw [z1] at this
      exact this.alloc _
    · have := Boxed.new ((w.alloc (.cells (tabC x t).toArray 28)).alloc (.cells (worldC q).toArray 31)) 23 (.slice none 0 0)
      rwa [z2] at this)
  have hm := reads_few ht.th
  unfold maxLen at hm
  have hfew := hW.few
  have hl1 := hW.len.h1
  have HTB := Lib.hid (fun w' (hb : Below w.heap.size w w') => ht.below hb)
  have HSEE := Lib.hid (fun y w' (hb : Below w.heap.size w w') => seesG x t q d t.th.length y w' (hW.below hb) hL)
  have HISW := Lib.hid (fun y w' => isC q y w' (by rw [hW.len.h1]; exact hW.len.few))
  rw [hl1] at HISW
  clear hl1
  have HIS := Lib.hid (fun i a ws c w' (hb : Below w.heap.size w w') hw hc => nounIs x t i a ws c w' (ht.below hb) hw hc)
  have HWD := Lib.hid (fun w' (hb : Below w.heap.size w w') => hw.below hb)
  have HWL := Lib.hid hw.1
  have HKYS := Lib.hid (fun s w' (hs : s.length ≤ maxLen) => nounKey s w' hs)
  have HART := Lib.hid (fun s w' (hs : s.length ≤ maxLen) => articleC s w' hs)
  obtain ⟨i0, hi, hz0, hz1, hz2⟩ := info_parts info_intR
  obtain ⟨sees, hsees⟩ : ∃ s, seesN d t.th.length = s := ⟨_, rfl⟩
  rw [hsees] at HSEE ⊢
  clear ht hW hL hw hsees z1 z2
  generalize hR : oneN t (seenTo sees t.th.length) (isW t.th.length q.it && sees q.it) q.it (ws.map keyW) = R
  have HR := Lib.hid hR
  clear hR
  obtain ⟨m, hwm⟩ : ∃ m, ws.length = m := ⟨_, rfl⟩
  have HWM := Lib.hid hwm
  rw [hwm] at hc hwl ⊢
  clear hwm
  have HSTt := Lib.hid HST.out.bt
  have HSTw := Lib.hid HST.out.bw
  obtain ⟨kt0, kt1, kt2, kt3, kt4, kt5, kt6, kt7, kt8, kt9, kt10, kt11, kt12, kt13, kt14⟩ := tab15 (HSTt.out)
  obtain ⟨b0, b1, b2, b3, b4, b5, b6, b7, b8, b9, bA, bB, bC⟩ := wd13 (HSTw.out)
  unfold tabV worldV at *
  go_enter Tryz.func22, Tryz.ntmps22
  unfold worldC at HSEE HISW hW0 ⊢
  unfold tabC at HSEE HIS hW0 ⊢
  go_wp2_with fail
  clear hW0
  clear kt0 kt1 kt2 kt3 kt4 kt5 kt6 kt7 kt8 kt9 kt10 kt11 kt12 kt13 kt14
  clear b0 b1 b2 b3 b4 b5 b6 b7 b8 b9 bA bB bC
  clear HSTt HSTw
  go_loopw [20] (fun iv wr => ∃ (i : Nat) (va : Option Addr) (vc : Nat), iv = .int .i64 i ∧ i ≤ t.th.length ∧ Hid (OSt x t q w.heap.size w wr (.slice va (seenTo sees i).length vc) (seenTo sees i))) (fun iv _ => t.th.length - (intOf iv).toNat)
  case atStart => exact ⟨0, none, 0, rfl, Nat.zero_le _, Lib.hid (by have h0 : seenTo sees 0 = [] := rfl; rw [h0]; exact HST.out)⟩
  case round =>
    clear HST
    obtain ⟨i, va, vc, rfl, hil, HST⟩ := hrel
    have HSS := Lib.hid (seen_succ sees i)
    have hsl := seen_len sees i
    have HSTt := Lib.hid HST.out.bt
    have HSTw := Lib.hid HST.out.bw
    obtain ⟨kt0, kt1, kt2, kt3, kt4, kt5, kt6, kt7, kt8, kt9, kt10, kt11, kt12, kt13, kt14⟩ := tab15 (HSTt.out)
    obtain ⟨b0, b1, b2, b3, b4, b5, b6, b7, b8, b9, bA, bB, bC⟩ := wd13 (HSTw.out)
    by_cases hlt : i < t.th.length
    · have hlt2 : (i : Int) < (t.th.length : Int) := by omega
      by_cases hi0 : 0 < i
      · have hi02 : (0 : Int) < (i : Int) := by omega
        obtain ⟨sv, hsv⟩ : ∃ r, sees (i : Int) = r := ⟨_, rfl⟩
        have HSI := Lib.hid (HSEE.out (i : Int))
        rw [hsv] at HSI
        rw [show decide (0 < (i : Int)) = true from decide_eq_true hi02, hsv] at HSS
        clear hsv
        go_wp2_with fail
        refine (HSI.out _ HST.out.bl).mono ?_
        rintro e w1 ⟨rfl, hb1⟩
        have HST1 := Lib.hid (HST.out.below hb1)
        clear hb1
        clear kt0 kt1 kt2 kt3 kt4 kt5 kt6 kt7 kt8 kt9 kt10 kt11 kt12 kt13 kt14
        clear b0 b1 b2 b3 b4 b5 b6 b7 b8 b9 bA bB bC
        clear HSTt HSTw
        clear HST
        have HST := HST1
        clear HST1
        cases sv with
        | true =>
          have hbo := HST.out.bo.cell
          have hbf := HST.out.bo.frozen
          have HWN := Lib.hid (HST.out.row.1.alloc (.cells #[.int .i64 (i : Int)] 3))
          have hzz : w.heap.size + 2 < w1.heap.size := HST.out.bo.lt
          have hne : some (w.heap.size + 2) ≠ (Value.slice va (seenTo sees i).length vc).ownBlock := fun e => by have := ow_lo HST.out.row.1 _ e.symm; omega
          have HNE := Lib.hid hne
          clear hne
          go_wp2_with (at_builtin; refine wpList_append_own _ rfl _ _ 23 rfl (w.heap.size + 3) 3 i0 (.int .i64 0) 1 8 Tryz.underlying23 hi hz0 hz1 hz2 rfl (by decide) _ (seenTo sees i).length ((seenTo sees i).map (Value.int .i64)) rfl HWN.out ⟨w1.heap.size, 0, none⟩ 1 1 [.int .i64 (i : Int)] rfl rfl (int_newS _ _ _) (ow_one rfl) (by unfold maxLen; omega) (by omega) (by simp; omega) ?_; intro v3 w3 hown3 hgrow3 _; obtain ⟨g3, cap3, rfl⟩ := ownsRow_succ hown3; have HST2 := Lib.hid (HST.out.add hgrow3 hown3); have hbx3 := (HST.out.bo.alloc (.cells #[.int .i64 (i : Int)] 3)).kept hgrow3 HNE.out; have e0 := hbx3.cell; have e1 := hbx3.frozen; clear hbx3; clear hown3 hgrow3)
          go_roundw
          case rel => exact ⟨i + 1, _, cap3, by go_num, by omega, Lib.hid (by
            have he : seenTo sees (i + 1) = seenTo sees i ++ [(i : Int)] := by rw [HSS.out]; rfl
            rw [he, List.length_append]; exact HST2.out)⟩
          case measure => simp [intOf]; omega
        | false =>
          go_wp2_with fail
          go_roundw
          case rel => exact ⟨i + 1, va, vc, by go_num, by omega, Lib.hid (by
            have he : seenTo sees (i + 1) = seenTo sees i := by rw [HSS.out]; simp
            rw [he]; exact HST.out)⟩
          case measure => simp [intOf]; omega
      · obtain rfl : i = 0 := by omega
        go_wp2_with fail
        go_roundw
        case rel => exact ⟨1, va, vc, rfl, by omega, Lib.hid (by
          have he : seenTo sees (0 + 1) = seenTo sees 0 := by rw [HSS.out]; rfl
          rw [he]; exact HST.out)⟩
        case measure => simp [intOf]; omega
    · obtain rfl : i = t.th.length := by omega
      as_aux_lemma =>
        have HLR : Hid (∀ y ∈ seenTo sees t.th.length, 1 ≤ y ∧ y < (t.th.length : Int)) := Lib.hid (fun y h => ⟨(seen_mem h).1, (seen_mem h).2.1⟩)
        generalize seenTo sees t.th.length = L at *
        clear HSS
        have hz2 : w.heap.size + 2 < wr.heap.size := HST.out.bo.lt
        have hbx := HST.out.bo.cell
        have HKN := Lib.hid (fun s w' (hb : Below wr.heap.size wr w') hs => knownC x t (w.heap.size + 2) w.heap.size va L vc s w' (HST.out.bo.kept (gr_below hb (r := none)) (by simp)) ((HST.out.row.ints (by unfold maxLen; omega)).below hb) (HST.out.bt.below hb) (HTB.out w' (HST.out.bl.trans (hb.mono (by omega)))) HLR.out hs)
        by_cases hm0 : m = 0
        · have hws : ws = [] := List.length_eq_zero_iff.1 (by rw [HWM.out]; exact hm0)
          subst hm0
          have HRR : Hid (R = (0, 0, 2)) := Lib.hid (by rw [← HR.out, hws]; rfl)
          clear hws
          go_wp2_with fail
          go_ret3
          exact ⟨by rw [HRR.out]; rfl, HST.out.bl⟩
        · have hm00 : (0 : Int) < (m : Int) := by omega
          have hm01 : ((0 : Int) == (m : Int)) = false := by simp; omega
          have hw0 : 0 < ws.length := by rw [HWM.out]; omega
          obtain ⟨b, o, rfl, hb, hcs⟩ := (HWD.out wr HST.out.bl).2 hw0
          have hc0 := hcs 0 hw0
          rw [Nat.add_zero] at hc0
          obtain ⟨s0, hs0⟩ : ∃ s, ws[0] = s := ⟨_, rfl⟩
          rw [hs0] at hc0
          have HA0 := Lib.hid (fun w' => HART.out s0 w' (HWL.out s0 (by rw [← hs0]; exact List.getElem_mem hw0)))
          have HAN : Hid (artN (ws.map keyW) = if theL.contains (keyW s0) = true then 1 else 0) := Lib.hid (by
            obtain ⟨a', l', rfl⟩ : ∃ a' l', ws = a' :: l' := by cases ws with | nil => simp at hw0 | cons a' l' => exact ⟨a', l', rfl⟩
            simp only [List.getElem_cons_zero] at hs0
            subst hs0
            rfl)
          obtain ⟨ar, har⟩ : ∃ r, theL.contains (keyW s0) = r := ⟨_, rfl⟩
          rw [har] at HA0 HAN
          clear hcs hs0 har
          go_wp2_with fail
          refine (HA0.out _).mono ?_
          rintro e w3 ⟨rfl, hb3⟩
          have HSTx := Lib.hid (HST.out.below hb3)
          have HBW := Lib.hid hb3
          clear kt0 kt1 kt2 kt3 kt4 kt5 kt6 kt7 kt8 kt9 kt10 kt11 kt12 kt13 kt14
          clear b0 b1 b2 b3 b4 b5 b6 b7 b8 b9 bA bB bC
          clear HSTt HSTw
          clear hb3 hc0 hbx
          clear HST
          have HST := HSTx
          clear HSTx
          cases ar with
          | true =>
            have HAN1 : Hid (artN (ws.map keyW) = 1) := Lib.hid HAN.out
            clear HAN
            by_cases hA : m = 1
            · subst hA
              have HRR : Hid (R = (0, 0, 2)) := Lib.hid (by
                rw [← HR.out]
                exact one_short (by rw [HAN1.out]; exact List.drop_eq_nil_of_le (by rw [List.length_map, HWM.out]; exact Nat.le_refl _)))
              go_wp2_with fail
              go_ret3
              exact ⟨by rw [HRR.out]; rfl, HST.out.bl⟩
            · have hAm : 1 < m := by omega
              have e0 : ((1 : Int) == (m : Int)) = false := by simp; omega
              clear hA
              as_aux_lemma =>
                have hwA : 1 < ws.length := by rw [HWM.out]; omega
                obtain ⟨b', o', hbe, hb', hcs⟩ := (HWD.out _ HST.out.bl).2 (by omega)
                simp only [Option.some.injEq, Addr.mk.injEq, and_true] at hbe
                obtain ⟨rfl, rfl⟩ := hbe
                have hcA := hcs 1 hwA
                try rw [Nat.add_zero] at hcA
                obtain ⟨sA, hsA⟩ : ∃ s, ws[1] = s := ⟨_, rfl⟩
                rw [hsA] at hcA
                have HKA := Lib.hid (fun w' => HKYS.out sA w' (HWL.out sA (by rw [← hsA]; exact List.getElem_mem hwA)))
                have HDR : Hid ((ws.map keyW).drop (artN (ws.map keyW)) = keyW sA :: (ws.map keyW).drop (1 + 1)) := Lib.hid (by
                  rw [HAN1.out, drop_cons (by rw [List.length_map]; exact hwA)]
                  simp [hsA])
                have hm1000 : (m : Int) ≤ 1000 := by omega
                have hmA : (1 : Int) < (m : Int) := by omega
                generalize keyW sA = kA at HKA HDR
                clear hcs hsA
                go_wp2_with fail
                refine (HKA.out _).mono ?_
                rintro e w4 ⟨rfl, hb4⟩
                have HST4 := Lib.hid (HST.out.below hb4)
                have HBW4 := Lib.hid (bl_then HBW.out hb4)
                clear hb4 hcA HST
                have HST := HST4
                clear HST4
                by_cases hk : kA = itK
                · have e1 : (kA == [105, 116]) = true := by rw [hk]; rfl
                  subst hk
                  have HRI : Hid (R = if (isW t.th.length q.it && sees q.it) = true then (q.it, 1 + 1, 0) else (0, 1 + 1, 11)) := Lib.hid (by rw [← HR.out, one_it HDR.out, HAN1.out])
                  have HSTt := Lib.hid HST.out.bt
                  have HSTw := Lib.hid HST.out.bw
                  obtain ⟨kt0, kt1, kt2, kt3, kt4, kt5, kt6, kt7, kt8, kt9, kt10, kt11, kt12, kt13, kt14⟩ := tab15 (HSTt.out)
                  obtain ⟨b0, b1, b2, b3, b4, b5, b6, b7, b8, b9, bA, bB, bC⟩ := wd13 (HSTw.out)
                  go_wp2_with fail
                  refine (HISW.out q.it _).mono ?_
                  rintro e w5 ⟨rfl, hb5⟩
                  have HST5 := Lib.hid (HST.out.below hb5)
                  clear kt0 kt1 kt2 kt3 kt4 kt5 kt6 kt7 kt8 kt9 kt10 kt11 kt12 kt13 kt14
                  clear b0 b1 b2 b3 b4 b5 b6 b7 b8 b9 bA bB bC
                  clear HSTt HSTw
                  clear hb5 HST
                  have HST := HST5
                  clear HST5
                  have HSTt := Lib.hid HST.out.bt
                  have HSTw := Lib.hid HST.out.bw
                  obtain ⟨kt0, kt1, kt2, kt3, kt4, kt5, kt6, kt7, kt8, kt9, kt10, kt11, kt12, kt13, kt14⟩ := tab15 (HSTt.out)
                  obtain ⟨b0, b1, b2, b3, b4, b5, b6, b7, b8, b9, bA, bB, bC⟩ := wd13 (HSTw.out)
                  cases hiw : isW t.th.length q.it with
                  | false =>
                    rw [hiw] at HRI
                    have HRR : Hid (R = (0, 1 + 1, 11)) := Lib.hid HRI.out
                    go_wp2_with fail
                    go_ret3
                    exact ⟨by rw [HRR.out]; rfl, HST.out.bl⟩
                  | true =>
                    rw [hiw] at HRI
                    have HSI := Lib.hid (HSEE.out q.it)
                    cases hsv : sees q.it with
                    | false =>
                      rw [hsv] at HRI HSI
                      have HRR : Hid (R = (0, 1 + 1, 11)) := Lib.hid HRI.out
                      go_wp2_with fail
                      refine (HSI.out _ HST.out.bl).mono ?_
                      rintro e w6 ⟨rfl, hb6⟩
                      have HST6 := Lib.hid (HST.out.below hb6)
                      clear kt0 kt1 kt2 kt3 kt4 kt5 kt6 kt7 kt8 kt9 kt10 kt11 kt12 kt13 kt14
                      clear b0 b1 b2 b3 b4 b5 b6 b7 b8 b9 bA bB bC
                      clear HSTt HSTw
                      clear hb6 HST
                      have HST := HST6
                      clear HST6
                      have HSTt := Lib.hid HST.out.bt
                      have HSTw := Lib.hid HST.out.bw
                      obtain ⟨kt0, kt1, kt2, kt3, kt4, kt5, kt6, kt7, kt8, kt9, kt10, kt11, kt12, kt13, kt14⟩ := tab15 (HSTt.out)
                      obtain ⟨b0, b1, b2, b3, b4, b5, b6, b7, b8, b9, bA, bB, bC⟩ := wd13 (HSTw.out)
                      go_wp2_with fail
                      go_ret3
                      exact ⟨by rw [HRR.out]; rfl, HST.out.bl⟩
                    | true =>
                      rw [hsv] at HRI HSI
                      have HRR : Hid (R = (q.it, 1 + 1, 0)) := Lib.hid HRI.out
                      go_wp2_with fail
                      refine (HSI.out _ HST.out.bl).mono ?_
                      rintro e w6 ⟨rfl, hb6⟩
                      have HST6 := Lib.hid (HST.out.below hb6)
                      clear kt0 kt1 kt2 kt3 kt4 kt5 kt6 kt7 kt8 kt9 kt10 kt11 kt12 kt13 kt14
                      clear b0 b1 b2 b3 b4 b5 b6 b7 b8 b9 bA bB bC
                      clear HSTt HSTw
                      clear hb6 HST
                      have HST := HST6
                      clear HST6
                      have HSTt := Lib.hid HST.out.bt
                      have HSTw := Lib.hid HST.out.bw
                      obtain ⟨kt0, kt1, kt2, kt3, kt4, kt5, kt6, kt7, kt8, kt9, kt10, kt11, kt12, kt13, kt14⟩ := tab15 (HSTt.out)
                      obtain ⟨b0, b1, b2, b3, b4, b5, b6, b7, b8, b9, bA, bB, bC⟩ := wd13 (HSTw.out)
                      go_wp2_with fail
                      go_ret3
                      exact ⟨by rw [HRR.out]; rfl, HST.out.bl⟩
                · have e1 : (kA == [105, 116]) = false := by simp; exact hk
                  have HNK := Lib.hid hk
                  clear hk
                  go_wp2_with fail
                  clear e1 HKA
                  go_loopw [13] (fun iv wr2 => ∃ z : Nat, iv = .int .i64 z ∧ 1 ≤ z ∧ z ≤ m ∧ Hid (∀ j (h : j < ws.length), 1 ≤ j → j < z → knownN t L (keyW ws[j]) = true) ∧ Hid (Below w4.heap.size w4 wr2)) (fun iv _ => m - (intOf iv).toNat)
                  case atStart => exact ⟨1, rfl, Nat.le_refl _, by omega, Lib.hid (fun j _ h1 h2 => by omega), Lib.hid (Below.refl _ _)⟩
                  case round =>
                    obtain ⟨z, rfl, hzA, hzm, HI, HB⟩ := hrel
                    have HBz := Lib.hid (bl_then HBW4.out HB.out)
                    have HSTz := Lib.hid (HST.out.below HB.out)
                    by_cases hlt : z < m
                    · have hlt2 : (z : Int) < (m : Int) := by omega
                      have hwz : z < ws.length := by rw [HWM.out]; exact hlt
                      obtain ⟨b2, o2, hbe, hb2, hcs⟩ := (HWD.out _ HSTz.out.bl).2 (by omega)
                      simp only [Option.some.injEq, Addr.mk.injEq, and_true] at hbe
                      obtain ⟨rfl, rfl⟩ := hbe
                      have hcz := hcs z hwz
                      obtain ⟨sz, hsz⟩ : ∃ s, ws[z] = s := ⟨_, rfl⟩
                      rw [hsz] at hcz
                      have HSZ := Lib.hid hsz
                      have HKZ := Lib.hid (HKN.out sz _ HBz.out (HWL.out sz (by rw [← hsz]; exact List.getElem_mem hwz)))
                      obtain ⟨kn, hkn⟩ : ∃ r, knownN t L (keyW sz) = r := ⟨_, rfl⟩
                      rw [hkn] at HKZ
                      have HKE := Lib.hid hkn
                      clear hcs hsz hkn
                      cases kn with
                      | true =>
                        go_wp2_with fail
                        refine HKZ.out.mono ?_
                        rintro e w5 ⟨rfl, hb5⟩
                        have HB5 := Lib.hid (bl_then HB.out hb5)
                        clear hb5 hcz
                        have HI2 : Hid (∀ j (h : j < ws.length), 1 ≤ j → j < z + 1 → knownN t L (keyW ws[j]) = true) := Lib.hid (fun j hj h1 h2 => by
                          by_cases e : j = z
                          · subst e; rw [HSZ.out]; exact HKE.out
                          · exact HI.out j hj h1 (by omega))
                        go_wp2_with fail
                        go_roundw
                        case rel => exact ⟨z + 1, by go_num, by omega, by omega, HI2, HB5⟩
                        case measure => simp [intOf]; omega
                      | false =>
                        go_wp2_with fail
                        refine HKZ.out.mono ?_
                        rintro e w5 ⟨rfl, hb5⟩
                        have HST5 := Lib.hid (HSTz.out.below hb5)
                        have HTW : Hid ((((ws.map keyW).drop (artN (ws.map keyW))).takeWhile (knownN t L)).length = z - 1) := Lib.hid (by
                          rw [HAN1.out]
                          refine tw_len _ _ _ (by rw [List.length_drop, List.length_map, HWM.out]; omega) (fun j hj hjz => ?_) (fun hj => ?_)
                          · rw [List.getElem_drop, List.getElem_map]; exact HI.out _ (by rw [List.length_drop, List.length_map] at hj; omega) (by omega) (by omega)
                          · rw [List.getElem_drop, List.getElem_map]
                            have e : 1 + (z - 1) = z := by omega
                            simp only [e, HSZ.out]
                            exact HKE.out)
                        clear hb5 hcz HST HSTz HB HBz
                        have HST := HST5
                        clear HST5
                        as_aux_lemma =>
                          by_cases hzz : z = 1
                          · subst hzz
                            have HRR : Hid (R = (0, 1, 11)) := Lib.hid (by
                              rw [← HR.out]
                              have := one_none (t := t) (seen := L) (sit := (isW t.th.length q.it && sees q.it)) (it := q.it) HDR.out HNK.out (by rw [HTW.out, Nat.sub_self])
                              rw [this, HAN1.out])
                            go_wp2_with fail
                            go_ret3
                            exact ⟨by rw [HRR.out]; rfl, HST.out.bl⟩
                          · have ez : ((z : Int) == (1 : Int)) = false := by simp; omega
                            have HRG : Hid (R = resN (L.filter (fun y => isN t y (((ws.map keyW).drop 1).take (z - 1)))) z) := Lib.hid (by
                              rw [← HR.out]
                              have := one_go (t := t) (seen := L) (sit := (isW t.th.length q.it && sees q.it)) (it := q.it) HDR.out HNK.out HTW.out (by omega)
                              rw [this, HAN1.out, show 1 + (z - 1) = z by omega])
                            have hln : ((ws.drop 1).take (z - 1)).length = z - 1 := by rw [List.length_take, List.length_drop, HWM.out]; omega
                            have hmk : ((ws.drop 1).take (z - 1)).map keyW = ((ws.map keyW).drop 1).take (z - 1) := by rw [List.map_take, List.map_drop]
                            have HISP := Lib.hid (fun y w' (hb : Below w.heap.size w w') => HIS.out y (some ⟨b, o + 1, none⟩) ((ws.drop 1).take (z - 1)) (c - 1) w' hb ((HWD.out w' hb).mid 1 (z - 1) (by rw [HWM.out]; omega)) (by rw [hln]; unfold maxLen; omega))
                            rw [hln, hmk] at HISP
                            try simp only [Nat.add_zero, Nat.sub_zero] at HISP
                            obtain ⟨P, hP⟩ : ∃ P : Int → Bool, (fun y => isN t y (((ws.map keyW).drop 1).take (z - 1))) = P := ⟨_, rfl⟩
                            have HP : Hid (∀ y, isN t y (((ws.map keyW).drop 1).take (z - 1)) = P y) := Lib.hid (fun y => by rw [← hP])
                            try simp only [Nat.sub_zero] at HP
                            rw [hP] at HRG
                            clear hln hmk hP
                            have hbx := HST.out.bo.cell
                            obtain ⟨nl, hnl⟩ : ∃ nl, L.length = nl := ⟨_, rfl⟩
                            have HNL := Lib.hid hnl
                            rw [hnl] at hbx
                            have HINL := Lib.hid (HST.out.row.ints (by unfold maxLen; omega))
                            have hsl' : nl ≤ 1000 := by omega
                            clear hnl
                            go_wp2_with fail
                            clear hbx ez
                            go_loopw [14, 94] (fun tv iv wr3 => ∃ (i : Nat) (th : Int), tv = .int .i64 th ∧ iv = .int .i64 i ∧ i ≤ nl ∧ 0 ≤ th ∧ Hid ((L.take i).filter P = if th = 0 then [] else [th]) ∧ Hid (Below (w5).heap.size w5 wr3)) (fun _ iv _ => nl - (intOf iv).toNat)
                            case atStart => exact ⟨0, 0, rfl, rfl, Nat.zero_le _, Int.le_refl _, Lib.hid (by simp), Lib.hid (Below.refl _ _)⟩
                            case round =>
                              obtain ⟨i, th, rfl, rfl, hil, hth0, HF, HB3⟩ := hrel
                              have HST3 := Lib.hid (HST.out.below HB3.out)
                              by_cases hi3 : i < nl
                              · have hi32 : (i : Int) < (nl : Int) := by omega
                                have hiL : i < L.length := by rw [HNL.out]; exact hi3
                                obtain ⟨bl, ol, hal, hbl, hcl⟩ := (HINL.out.below HB3.out).at2 (by omega)
                                subst hal
                                have hcy := hcl i hiL
                                have HMEM := Lib.hid (List.getElem_mem hiL)
                                have HTK : Hid ((L.take (i + 1)).filter P = (L.take i).filter P ++ (if P L[i] = true then [L[i]] else [])) := Lib.hid (by
                                  rw [List.take_succ_eq_append_getElem hiL, List.filter_append]
                                  congr 1
                                  by_cases hp : P L[i] = true <;> simp [hp])
                                have HSP : Hid (∃ rest, L.filter P = (L.take i).filter P ++ (if P L[i] = true then [L[i]] else []) ++ rest) := Lib.hid ⟨(L.drop (i + 1)).filter P, by rw [← HTK.out, ← List.filter_append, List.take_append_drop]⟩
                                generalize L[i] = y at *
                                obtain ⟨hy1, hy2⟩ := HLR.out y HMEM.out
                                have HISy := Lib.hid (HISP.out y)
                                obtain ⟨pv, hpv⟩ : ∃ r, P y = r := ⟨_, rfl⟩
                                rw [HP.out, hpv] at HISy
                                rw [hpv] at HTK HSP
                                clear hcl hpv
                                have HSTt := Lib.hid HST3.out.bt
                                obtain ⟨kt0, kt1, kt2, kt3, kt4, kt5, kt6, kt7, kt8, kt9, kt10, kt11, kt12, kt13, kt14⟩ := tab15 (HSTt.out)
                                have hzt : w.heap.size < wr.heap.size := HSTt.out.lt
                                have hcA2 : (1 : Int) ≤ (z : Int) := by omega
                                have hcz2 : (z : Int) ≤ (c : Int) := by omega
                                have hcne : ¬ (c = 1) := by omega
                                cases pv with
                                | false =>
                                  go_wp2_with fail
                                  refine region_text (fun w' => Below wr.heap.size wr w') (by kernel_rfl) (by kernel_rfl) ((Below.refl _ _).drew) (fun KK hKK => ?_)
                                  intro OPS
                                  try simp only [List.append]
                                  repeat (first
                                    | (refine' inText_val ?_ ?_ ?_ ?_
                                       rotate_left 2
                                       · rfl
                                       · (intro w' hS; obtain ⟨hcc, hff⟩ := bcell hS; go_simp; first | with_reducible rfl | skip)
                                       · (simp only [Act.put, List.setIfInBounds_toArray, List.set_cons_zero, List.set_cons_succ]; with_reducible rfl))
                                    | (refine' inText_call ?_ ?_ ?_ ?_ ?_
                                       rotate_left 4
                                       · rfl
                                       · (intro w' hS; obtain ⟨hcc, hff⟩ := bcell hS; go_simp; exact ⟨rfl, rfl⟩)
                                       · (intro w' hS
                                          ((with_reducible refine (HISy.out w' (HST3.out.bl.trans (hS.mono (by omega)))).mono ?_); exact fun e w'' h => ⟨h.1, bl_then hS h.2⟩))
                                       · (simp only [Act.put, List.setIfInBounds_toArray, List.set_cons_zero, List.set_cons_succ]; with_reducible rfl)))
                                  refine inText_nil (hKK.out _ (fun w9 hS => ?_))
                                  have HB9 := Lib.hid (bl_then HB3.out hS)
                                  clear hS hKK OPS
                                  clear kt0 kt1 kt2 kt3 kt4 kt5 kt6 kt7 kt8 kt9 kt10 kt11 kt12 kt13 kt14
                                  have HF2 : Hid ((L.take (i + 1)).filter P = if th = 0 then [] else [th]) := Lib.hid (by rw [HTK.out]; simpa using HF.out)
                                  go_wp2_with fail
                                  go_roundw
                                  case rel => exact ⟨i + 1, th, rfl, by go_num, by omega, hth0, HF2, HB9⟩
                                  case measure => simp [intOf]; omega
                                | true =>
                                  have HF3 := Lib.hid HF.out
                                  by_cases hth : th = 0
                                  · subst hth
                                    go_wp2_with fail
                                    refine region_text (fun w' => Below wr.heap.size wr w') (by kernel_rfl) (by kernel_rfl) ((Below.refl _ _).drew) (fun KK hKK => ?_)
                                    intro OPS
                                    try simp only [List.append]
                                    repeat (first
                                      | (refine' inText_val ?_ ?_ ?_ ?_
                                         rotate_left 2
                                         · rfl
                                         · (intro w' hS; obtain ⟨hcc, hff⟩ := bcell hS; go_simp; first | with_reducible rfl | skip)
                                         · (simp only [Act.put, List.setIfInBounds_toArray, List.set_cons_zero, List.set_cons_succ]; with_reducible rfl))
                                      | (refine' inText_call ?_ ?_ ?_ ?_ ?_
                                         rotate_left 4
                                         · rfl
                                         · (intro w' hS; obtain ⟨hcc, hff⟩ := bcell hS; go_simp; exact ⟨rfl, rfl⟩)
                                         · (intro w' hS
                                            ((with_reducible refine (HISy.out w' (HST3.out.bl.trans (hS.mono (by omega)))).mono ?_); exact fun e w'' h => ⟨h.1, bl_then hS h.2⟩))
                                         · (simp only [Act.put, List.setIfInBounds_toArray, List.set_cons_zero, List.set_cons_succ]; with_reducible rfl)))
                                    refine inText_nil (hKK.out _ (fun w9 hS => ?_))
                                    have HB9 := Lib.hid (bl_then HB3.out hS)
                                    clear hS hKK OPS
                                    clear kt0 kt1 kt2 kt3 kt4 kt5 kt6 kt7 kt8 kt9 kt10 kt11 kt12 kt13 kt14
                                    have HF2 : Hid ((L.take (i + 1)).filter P = if y = 0 then [] else [y]) := Lib.hid (by
                                      have h1 := HTK.out
                                      have h2 := HF.out
                                      rw [if_neg (by omega), h1]
                                      simp [h2])
                                    go_wp2_with fail
                                    go_roundw
                                    case rel => exact ⟨i + 1, y, rfl, by go_num, by omega, by omega, HF2, HB9⟩
                                    case measure => simp [intOf]; omega
                                  · have hthp : (0 : Int) < th := by omega
                                    have HRR : Hid (R = (0, z, 10)) := Lib.hid (by
                                      obtain ⟨rest, hr⟩ := HSP.out
                                      have h2 := HF.out
                                      rw [if_neg hth] at h2
                                      rw [HRG.out, hr, h2]
                                      rfl)
                                    clear hth
                                    go_wp2_with fail
                                    refine region_text (fun w' => Below wr.heap.size wr w') (by kernel_rfl) (by kernel_rfl) ((Below.refl _ _).drew) (fun KK hKK => ?_)
                                    intro OPS
                                    try simp only [List.append]
                                    repeat (first
                                      | (refine' inText_val ?_ ?_ ?_ ?_
                                         rotate_left 2
                                         · rfl
                                         · (intro w' hS; obtain ⟨hcc, hff⟩ := bcell hS; go_simp; first | with_reducible rfl | skip)
                                         · (simp only [Act.put, List.setIfInBounds_toArray, List.set_cons_zero, List.set_cons_succ]; with_reducible rfl))
                                      | (refine' inText_call ?_ ?_ ?_ ?_ ?_
                                         rotate_left 4
                                         · rfl
                                         · (intro w' hS; obtain ⟨hcc, hff⟩ := bcell hS; go_simp; exact ⟨rfl, rfl⟩)
                                         · (intro w' hS
                                            ((with_reducible refine (HISy.out w' (HST3.out.bl.trans (hS.mono (by omega)))).mono ?_); exact fun e w'' h => ⟨h.1, bl_then hS h.2⟩))
                                         · (simp only [Act.put, List.setIfInBounds_toArray, List.set_cons_zero, List.set_cons_succ]; with_reducible rfl)))
                                    refine inText_nil (hKK.out _ (fun w9 hS => ?_))
                                    have HB9 := Lib.hid (bl_then HB3.out hS)
                                    clear hS hKK OPS
                                    clear kt0 kt1 kt2 kt3 kt4 kt5 kt6 kt7 kt8 kt9 kt10 kt11 kt12 kt13 kt14
                                    go_wp2_with fail
                                    go_ret3
                                    exact ⟨by rw [HRR.out]; rfl, (HST.out.below HB9.out).bl⟩
                              · have HFF : Hid (L.filter P = if th = 0 then [] else [th]) := Lib.hid (by rw [← HF.out, List.take_of_length_le (by rw [HNL.out]; omega)])
                                by_cases hth : th = 0
                                · subst hth
                                  have HRR : Hid (R = (0, z, 11)) := Lib.hid (by rw [HRG.out, HFF.out, if_pos rfl]; rfl)
                                  go_wp2_with fail
                                  go_ret3
                                  exact ⟨by rw [HRR.out]; rfl, HST3.out.bl⟩
                                · have HRR : Hid (R = (th, z, 0)) := Lib.hid (by rw [HRG.out, HFF.out, if_neg hth]; rfl)
                                  have hth2 : (th == 0) = false := by simp [hth]
                                  clear hth
                                  go_wp2_with fail
                                  go_ret3
                                  exact ⟨by rw [HRR.out]; rfl, HST3.out.bl⟩
                    · obtain rfl : z = m := by omega
                      have HTW : Hid ((((ws.map keyW).drop (artN (ws.map keyW))).takeWhile (knownN t L)).length = z - 1) := Lib.hid (by
                        rw [HAN1.out]
                        refine tw_len _ _ _ (by rw [List.length_drop, List.length_map, HWM.out]; omega) (fun j hj hjz => ?_) (fun hj => ?_)
                        · rw [List.getElem_drop, List.getElem_map]; exact HI.out _ (by rw [List.length_drop, List.length_map] at hj; omega) (by omega) (by omega)
                        · rw [List.length_drop, List.length_map, HWM.out] at hj; omega)
                      clear HST HB HBz
                      have HST := HSTz
                      clear HSTz
                      as_aux_lemma =>
                        by_cases hzz : z = 1
                        · subst hzz
                          have HRR : Hid (R = (0, 1, 11)) := Lib.hid (by
                            rw [← HR.out]
                            have := one_none (t := t) (seen := L) (sit := (isW t.th.length q.it && sees q.it)) (it := q.it) HDR.out HNK.out (by rw [HTW.out, Nat.sub_self])
                            rw [this, HAN1.out])
                          go_wp2_with fail
                          go_ret3
                          exact ⟨by rw [HRR.out]; rfl, HST.out.bl⟩
                        · have ez : ((z : Int) == (1 : Int)) = false := by simp; omega
                          have HRG : Hid (R = resN (L.filter (fun y => isN t y (((ws.map keyW).drop 1).take (z - 1)))) z) := Lib.hid (by
                            rw [← HR.out]
                            have := one_go (t := t) (seen := L) (sit := (isW t.th.length q.it && sees q.it)) (it := q.it) HDR.out HNK.out HTW.out (by omega)
                            rw [this, HAN1.out, show 1 + (z - 1) = z by omega])
                          have hln : ((ws.drop 1).take (z - 1)).length = z - 1 := by rw [List.length_take, List.length_drop, HWM.out]; omega
                          have hmk : ((ws.drop 1).take (z - 1)).map keyW = ((ws.map keyW).drop 1).take (z - 1) := by rw [List.map_take, List.map_drop]
                          have HISP := Lib.hid (fun y w' (hb : Below w.heap.size w w') => HIS.out y (some ⟨b, o + 1, none⟩) ((ws.drop 1).take (z - 1)) (c - 1) w' hb ((HWD.out w' hb).mid 1 (z - 1) (by rw [HWM.out]; omega)) (by rw [hln]; unfold maxLen; omega))
                          rw [hln, hmk] at HISP
                          try simp only [Nat.add_zero, Nat.sub_zero] at HISP
                          obtain ⟨P, hP⟩ : ∃ P : Int → Bool, (fun y => isN t y (((ws.map keyW).drop 1).take (z - 1))) = P := ⟨_, rfl⟩
                          have HP : Hid (∀ y, isN t y (((ws.map keyW).drop 1).take (z - 1)) = P y) := Lib.hid (fun y => by rw [← hP])
                          try simp only [Nat.sub_zero] at HP
                          rw [hP] at HRG
                          clear hln hmk hP
                          have hbx := HST.out.bo.cell
                          obtain ⟨nl, hnl⟩ : ∃ nl, L.length = nl := ⟨_, rfl⟩
                          have HNL := Lib.hid hnl
                          rw [hnl] at hbx
                          have HINL := Lib.hid (HST.out.row.ints (by unfold maxLen; omega))
                          have hsl' : nl ≤ 1000 := by omega
                          clear hnl
                          go_wp2_with fail
                          clear hbx ez
                          go_loopw [14, 94] (fun tv iv wr3 => ∃ (i : Nat) (th : Int), tv = .int .i64 th ∧ iv = .int .i64 i ∧ i ≤ nl ∧ 0 ≤ th ∧ Hid ((L.take i).filter P = if th = 0 then [] else [th]) ∧ Hid (Below (wr).heap.size wr wr3)) (fun _ iv _ => nl - (intOf iv).toNat)
                          case atStart => exact ⟨0, 0, rfl, rfl, Nat.zero_le _, Int.le_refl _, Lib.hid (by simp), Lib.hid (Below.refl _ _)⟩
                          case round =>
                            obtain ⟨i, th, rfl, rfl, hil, hth0, HF, HB3⟩ := hrel
                            have HST3 := Lib.hid (HST.out.below HB3.out)
                            by_cases hi3 : i < nl
                            · have hi32 : (i : Int) < (nl : Int) := by omega
                              have hiL : i < L.length := by rw [HNL.out]; exact hi3
                              obtain ⟨bl, ol, hal, hbl, hcl⟩ := (HINL.out.below HB3.out).at2 (by omega)
                              subst hal
                              have hcy := hcl i hiL
                              have HMEM := Lib.hid (List.getElem_mem hiL)
                              have HTK : Hid ((L.take (i + 1)).filter P = (L.take i).filter P ++ (if P L[i] = true then [L[i]] else [])) := Lib.hid (by
                                rw [List.take_succ_eq_append_getElem hiL, List.filter_append]
                                congr 1
                                by_cases hp : P L[i] = true <;> simp [hp])
                              have HSP : Hid (∃ rest, L.filter P = (L.take i).filter P ++ (if P L[i] = true then [L[i]] else []) ++ rest) := Lib.hid ⟨(L.drop (i + 1)).filter P, by rw [← HTK.out, ← List.filter_append, List.take_append_drop]⟩
                              generalize L[i] = y at *
                              obtain ⟨hy1, hy2⟩ := HLR.out y HMEM.out
                              have HISy := Lib.hid (HISP.out y)
                              obtain ⟨pv, hpv⟩ : ∃ r, P y = r := ⟨_, rfl⟩
                              rw [HP.out, hpv] at HISy
                              rw [hpv] at HTK HSP
                              clear hcl hpv
                              have HSTt := Lib.hid HST3.out.bt
                              obtain ⟨kt0, kt1, kt2, kt3, kt4, kt5, kt6, kt7, kt8, kt9, kt10, kt11, kt12, kt13, kt14⟩ := tab15 (HSTt.out)
                              have hzt : w.heap.size < wr.heap.size := HSTt.out.lt
                              have hcA2 : (1 : Int) ≤ (z : Int) := by omega
                              have hcz2 : (z : Int) ≤ (c : Int) := by omega
                              have hcne : ¬ (c = 1) := by omega
                              cases pv with
                              | false =>
                                go_wp2_with fail
                                refine region_text (fun w' => Below wr.heap.size wr w') (by kernel_rfl) (by kernel_rfl) ((Below.refl _ _).drew) (fun KK hKK => ?_)
                                intro OPS
                                try simp only [List.append]
                                repeat (first
                                  | (refine' inText_val ?_ ?_ ?_ ?_
                                     rotate_left 2
                                     · rfl
                                     · (intro w' hS; obtain ⟨hcc, hff⟩ := bcell hS; go_simp; first | with_reducible rfl | skip)
                                     · (simp only [Act.put, List.setIfInBounds_toArray, List.set_cons_zero, List.set_cons_succ]; with_reducible rfl))
                                  | (refine' inText_call ?_ ?_ ?_ ?_ ?_
                                     rotate_left 4
                                     · rfl
                                     · (intro w' hS; obtain ⟨hcc, hff⟩ := bcell hS; go_simp; exact ⟨rfl, rfl⟩)
                                     · (intro w' hS
                                        ((with_reducible refine (HISy.out w' (HST3.out.bl.trans (hS.mono (by omega)))).mono ?_); exact fun e w'' h => ⟨h.1, bl_then hS h.2⟩))
                                     · (simp only [Act.put, List.setIfInBounds_toArray, List.set_cons_zero, List.set_cons_succ]; with_reducible rfl)))
                                refine inText_nil (hKK.out _ (fun w9 hS => ?_))
                                have HB9 := Lib.hid (bl_then HB3.out hS)
                                clear hS hKK OPS
                                clear kt0 kt1 kt2 kt3 kt4 kt5 kt6 kt7 kt8 kt9 kt10 kt11 kt12 kt13 kt14
                                have HF2 : Hid ((L.take (i + 1)).filter P = if th = 0 then [] else [th]) := Lib.hid (by rw [HTK.out]; simpa using HF.out)
                                go_wp2_with fail
                                go_roundw
                                case rel => exact ⟨i + 1, th, rfl, by go_num, by omega, hth0, HF2, HB9⟩
                                case measure => simp [intOf]; omega
                              | true =>
                                have HF3 := Lib.hid HF.out
                                by_cases hth : th = 0
                                · subst hth
                                  go_wp2_with fail
                                  refine region_text (fun w' => Below wr.heap.size wr w') (by kernel_rfl) (by kernel_rfl) ((Below.refl _ _).drew) (fun KK hKK => ?_)
                                  intro OPS
                                  try simp only [List.append]
                                  repeat (first
                                    | (refine' inText_val ?_ ?_ ?_ ?_
                                       rotate_left 2
                                       · rfl
                                       · (intro w' hS; obtain ⟨hcc, hff⟩ := bcell hS; go_simp; first | with_reducible rfl | skip)
                                       · (simp only [Act.put, List.setIfInBounds_toArray, List.set_cons_zero, List.set_cons_succ]; with_reducible rfl))
                                    | (refine' inText_call ?_ ?_ ?_ ?_ ?_
                                       rotate_left 4
                                       · rfl
                                       · (intro w' hS; obtain ⟨hcc, hff⟩ := bcell hS; go_simp; exact ⟨rfl, rfl⟩)
                                       · (intro w' hS
                                          ((with_reducible refine (HISy.out w' (HST3.out.bl.trans (hS.mono (by omega)))).mono ?_); exact fun e w'' h => ⟨h.1, bl_then hS h.2⟩))
                                       · (simp only [Act.put, List.setIfInBounds_toArray, List.set_cons_zero, List.set_cons_succ]; with_reducible rfl)))
                                  refine inText_nil (hKK.out _ (fun w9 hS => ?_))
                                  have HB9 := Lib.hid (bl_then HB3.out hS)
                                  clear hS hKK OPS
                                  clear kt0 kt1 kt2 kt3 kt4 kt5 kt6 kt7 kt8 kt9 kt10 kt11 kt12 kt13 kt14
                                  have HF2 : Hid ((L.take (i + 1)).filter P = if y = 0 then [] else [y]) := Lib.hid (by
                                    have h1 := HTK.out
                                    have h2 := HF.out
                                    rw [if_neg (by omega), h1]
                                    simp [h2])
                                  go_wp2_with fail
                                  go_roundw
                                  case rel => exact ⟨i + 1, y, rfl, by go_num, by omega, by omega, HF2, HB9⟩
                                  case measure => simp [intOf]; omega
                                · have hthp : (0 : Int) < th := by omega
                                  have HRR : Hid (R = (0, z, 10)) := Lib.hid (by
                                    obtain ⟨rest, hr⟩ := HSP.out
                                    have h2 := HF.out
                                    rw [if_neg hth] at h2
                                    rw [HRG.out, hr, h2]
                                    rfl)
                                  clear hth
                                  go_wp2_with fail
                                  refine region_text (fun w' => Below wr.heap.size wr w') (by kernel_rfl) (by kernel_rfl) ((Below.refl _ _).drew) (fun KK hKK => ?_)
                                  intro OPS
                                  try simp only [List.append]
                                  repeat (first
                                    | (refine' inText_val ?_ ?_ ?_ ?_
                                       rotate_left 2
                                       · rfl
                                       · (intro w' hS; obtain ⟨hcc, hff⟩ := bcell hS; go_simp; first | with_reducible rfl | skip)
                                       · (simp only [Act.put, List.setIfInBounds_toArray, List.set_cons_zero, List.set_cons_succ]; with_reducible rfl))
                                    | (refine' inText_call ?_ ?_ ?_ ?_ ?_
                                       rotate_left 4
                                       · rfl
                                       · (intro w' hS; obtain ⟨hcc, hff⟩ := bcell hS; go_simp; exact ⟨rfl, rfl⟩)
                                       · (intro w' hS
                                          ((with_reducible refine (HISy.out w' (HST3.out.bl.trans (hS.mono (by omega)))).mono ?_); exact fun e w'' h => ⟨h.1, bl_then hS h.2⟩))
                                       · (simp only [Act.put, List.setIfInBounds_toArray, List.set_cons_zero, List.set_cons_succ]; with_reducible rfl)))
                                  refine inText_nil (hKK.out _ (fun w9 hS => ?_))
                                  have HB9 := Lib.hid (bl_then HB3.out hS)
                                  clear hS hKK OPS
                                  clear kt0 kt1 kt2 kt3 kt4 kt5 kt6 kt7 kt8 kt9 kt10 kt11 kt12 kt13 kt14
                                  go_wp2_with fail
                                  go_ret3
                                  exact ⟨by rw [HRR.out]; rfl, (HST.out.below HB9.out).bl⟩
                            · have HFF : Hid (L.filter P = if th = 0 then [] else [th]) := Lib.hid (by rw [← HF.out, List.take_of_length_le (by rw [HNL.out]; omega)])
                              by_cases hth : th = 0
                              · subst hth
                                have HRR : Hid (R = (0, z, 11)) := Lib.hid (by rw [HRG.out, HFF.out, if_pos rfl]; rfl)
                                go_wp2_with fail
                                go_ret3
                                exact ⟨by rw [HRR.out]; rfl, HST3.out.bl⟩
                              · have HRR : Hid (R = (th, z, 0)) := Lib.hid (by rw [HRG.out, HFF.out, if_neg hth]; rfl)
                                have hth2 : (th == 0) = false := by simp [hth]
                                clear hth
                                go_wp2_with fail
                                go_ret3
                                exact ⟨by rw [HRR.out]; rfl, HST3.out.bl⟩
          | false =>
            have HAN1 : Hid (artN (ws.map keyW) = 0) := Lib.hid HAN.out
            clear HAN
            have hAm : 0 < m := by omega
            as_aux_lemma =>
              have hwA : 0 < ws.length := by rw [HWM.out]; omega
              obtain ⟨b', o', hbe, hb', hcs⟩ := (HWD.out _ HST.out.bl).2 (by omega)
              simp only [Option.some.injEq, Addr.mk.injEq, and_true] at hbe
              obtain ⟨rfl, rfl⟩ := hbe
              have hcA := hcs 0 hwA
              try rw [Nat.add_zero] at hcA
              obtain ⟨sA, hsA⟩ : ∃ s, ws[0] = s := ⟨_, rfl⟩
              rw [hsA] at hcA
              have HKA := Lib.hid (fun w' => HKYS.out sA w' (HWL.out sA (by rw [← hsA]; exact List.getElem_mem hwA)))
              have HDR : Hid ((ws.map keyW).drop (artN (ws.map keyW)) = keyW sA :: (ws.map keyW).drop (0 + 1)) := Lib.hid (by
                rw [HAN1.out, drop_cons (by rw [List.length_map]; exact hwA)]
                simp [hsA])
              have hm1000 : (m : Int) ≤ 1000 := by omega
              have hmA : (0 : Int) < (m : Int) := by omega
              generalize keyW sA = kA at HKA HDR
              clear hcs hsA
              go_wp2_with fail
              refine (HKA.out _).mono ?_
              rintro e w4 ⟨rfl, hb4⟩
              have HST4 := Lib.hid (HST.out.below hb4)
              have HBW4 := Lib.hid (bl_then HBW.out hb4)
              clear hb4 hcA HST
              have HST := HST4
              clear HST4
              by_cases hk : kA = itK
              · have e1 : (kA == [105, 116]) = true := by rw [hk]; rfl
                subst hk
                have HRI : Hid (R = if (isW t.th.length q.it && sees q.it) = true then (q.it, 0 + 1, 0) else (0, 0 + 1, 11)) := Lib.hid (by rw [← HR.out, one_it HDR.out, HAN1.out])
                have HSTt := Lib.hid HST.out.bt
                have HSTw := Lib.hid HST.out.bw
                obtain ⟨kt0, kt1, kt2, kt3, kt4, kt5, kt6, kt7, kt8, kt9, kt10, kt11, kt12, kt13, kt14⟩ := tab15 (HSTt.out)
                obtain ⟨b0, b1, b2, b3, b4, b5, b6, b7, b8, b9, bA, bB, bC⟩ := wd13 (HSTw.out)
                go_wp2_with fail
                refine (HISW.out q.it _).mono ?_
                rintro e w5 ⟨rfl, hb5⟩
                have HST5 := Lib.hid (HST.out.below hb5)
                clear kt0 kt1 kt2 kt3 kt4 kt5 kt6 kt7 kt8 kt9 kt10 kt11 kt12 kt13 kt14
                clear b0 b1 b2 b3 b4 b5 b6 b7 b8 b9 bA bB bC
                clear HSTt HSTw
                clear hb5 HST
                have HST := HST5
                clear HST5
                have HSTt := Lib.hid HST.out.bt
                have HSTw := Lib.hid HST.out.bw
                obtain ⟨kt0, kt1, kt2, kt3, kt4, kt5, kt6, kt7, kt8, kt9, kt10, kt11, kt12, kt13, kt14⟩ := tab15 (HSTt.out)
                obtain ⟨b0, b1, b2, b3, b4, b5, b6, b7, b8, b9, bA, bB, bC⟩ := wd13 (HSTw.out)
                cases hiw : isW t.th.length q.it with
                | false =>
                  rw [hiw] at HRI
                  have HRR : Hid (R = (0, 0 + 1, 11)) := Lib.hid HRI.out
                  go_wp2_with fail
                  go_ret3
                  exact ⟨by rw [HRR.out]; rfl, HST.out.bl⟩
                | true =>
                  rw [hiw] at HRI
                  have HSI := Lib.hid (HSEE.out q.it)
                  cases hsv : sees q.it with
                  | false =>
                    rw [hsv] at HRI HSI
                    have HRR : Hid (R = (0, 0 + 1, 11)) := Lib.hid HRI.out
                    go_wp2_with fail
                    refine (HSI.out _ HST.out.bl).mono ?_
                    rintro e w6 ⟨rfl, hb6⟩
                    have HST6 := Lib.hid (HST.out.below hb6)
                    clear kt0 kt1 kt2 kt3 kt4 kt5 kt6 kt7 kt8 kt9 kt10 kt11 kt12 kt13 kt14
                    clear b0 b1 b2 b3 b4 b5 b6 b7 b8 b9 bA bB bC
                    clear HSTt HSTw
                    clear hb6 HST
                    have HST := HST6
                    clear HST6
                    have HSTt := Lib.hid HST.out.bt
                    have HSTw := Lib.hid HST.out.bw
                    obtain ⟨kt0, kt1, kt2, kt3, kt4, kt5, kt6, kt7, kt8, kt9, kt10, kt11, kt12, kt13, kt14⟩ := tab15 (HSTt.out)
                    obtain ⟨b0, b1, b2, b3, b4, b5, b6, b7, b8, b9, bA, bB, bC⟩ := wd13 (HSTw.out)
                    go_wp2_with fail
                    go_ret3
                    exact ⟨by rw [HRR.out]; rfl, HST.out.bl⟩
                  | true =>
                    rw [hsv] at HRI HSI
                    have HRR : Hid (R = (q.it, 0 + 1, 0)) := Lib.hid HRI.out
                    go_wp2_with fail
                    refine (HSI.out _ HST.out.bl).mono ?_
                    rintro e w6 ⟨rfl, hb6⟩
                    have HST6 := Lib.hid (HST.out.below hb6)
                    clear kt0 kt1 kt2 kt3 kt4 kt5 kt6 kt7 kt8 kt9 kt10 kt11 kt12 kt13 kt14
                    clear b0 b1 b2 b3 b4 b5 b6 b7 b8 b9 bA bB bC
                    clear HSTt HSTw
                    clear hb6 HST
                    have HST := HST6
                    clear HST6
                    have HSTt := Lib.hid HST.out.bt
                    have HSTw := Lib.hid HST.out.bw
                    obtain ⟨kt0, kt1, kt2, kt3, kt4, kt5, kt6, kt7, kt8, kt9, kt10, kt11, kt12, kt13, kt14⟩ := tab15 (HSTt.out)
                    obtain ⟨b0, b1, b2, b3, b4, b5, b6, b7, b8, b9, bA, bB, bC⟩ := wd13 (HSTw.out)
                    go_wp2_with fail
                    go_ret3
                    exact ⟨by rw [HRR.out]; rfl, HST.out.bl⟩
              · have e1 : (kA == [105, 116]) = false := by simp; exact hk
                have HNK := Lib.hid hk
                clear hk
                go_wp2_with fail
                clear e1 HKA
                go_loopw [13] (fun iv wr2 => ∃ z : Nat, iv = .int .i64 z ∧ 0 ≤ z ∧ z ≤ m ∧ Hid (∀ j (h : j < ws.length), 0 ≤ j → j < z → knownN t L (keyW ws[j]) = true) ∧ Hid (Below w4.heap.size w4 wr2)) (fun iv _ => m - (intOf iv).toNat)
                case atStart => exact ⟨0, rfl, Nat.le_refl _, by omega, Lib.hid (fun j _ h1 h2 => by omega), Lib.hid (Below.refl _ _)⟩
                case round =>
                  obtain ⟨z, rfl, hzA, hzm, HI, HB⟩ := hrel
                  have HBz := Lib.hid (bl_then HBW4.out HB.out)
                  have HSTz := Lib.hid (HST.out.below HB.out)
                  by_cases hlt : z < m
                  · have hlt2 : (z : Int) < (m : Int) := by omega
                    have hwz : z < ws.length := by rw [HWM.out]; exact hlt
                    obtain ⟨b2, o2, hbe, hb2, hcs⟩ := (HWD.out _ HSTz.out.bl).2 (by omega)
                    simp only [Option.some.injEq, Addr.mk.injEq, and_true] at hbe
                    obtain ⟨rfl, rfl⟩ := hbe
                    have hcz := hcs z hwz
                    obtain ⟨sz, hsz⟩ : ∃ s, ws[z] = s := ⟨_, rfl⟩
                    rw [hsz] at hcz
                    have HSZ := Lib.hid hsz
                    have HKZ := Lib.hid (HKN.out sz _ HBz.out (HWL.out sz (by rw [← hsz]; exact List.getElem_mem hwz)))
                    obtain ⟨kn, hkn⟩ : ∃ r, knownN t L (keyW sz) = r := ⟨_, rfl⟩
                    rw [hkn] at HKZ
                    have HKE := Lib.hid hkn
                    clear hcs hsz hkn
                    cases kn with
                    | true =>
                      go_wp2_with fail
                      refine HKZ.out.mono ?_
                      rintro e w5 ⟨rfl, hb5⟩
                      have HB5 := Lib.hid (bl_then HB.out hb5)
                      clear hb5 hcz
                      have HI2 : Hid (∀ j (h : j < ws.length), 0 ≤ j → j < z + 1 → knownN t L (keyW ws[j]) = true) := Lib.hid (fun j hj h1 h2 => by
                        by_cases e : j = z
                        · subst e; rw [HSZ.out]; exact HKE.out
                        · exact HI.out j hj h1 (by omega))
                      go_wp2_with fail
                      go_roundw
                      case rel => exact ⟨z + 1, by go_num, by omega, by omega, HI2, HB5⟩
                      case measure => simp [intOf]; omega
                    | false =>
                      go_wp2_with fail
                      refine HKZ.out.mono ?_
                      rintro e w5 ⟨rfl, hb5⟩
                      have HST5 := Lib.hid (HSTz.out.below hb5)
                      have HTW : Hid ((((ws.map keyW).drop (artN (ws.map keyW))).takeWhile (knownN t L)).length = z - 0) := Lib.hid (by
                        rw [HAN1.out]
                        refine tw_len _ _ _ (by rw [List.length_drop, List.length_map, HWM.out]; omega) (fun j hj hjz => ?_) (fun hj => ?_)
                        · rw [List.getElem_drop, List.getElem_map]; exact HI.out _ (by rw [List.length_drop, List.length_map] at hj; omega) (by omega) (by omega)
                        · rw [List.getElem_drop, List.getElem_map]
                          have e : 0 + (z - 0) = z := by omega
                          simp only [e, HSZ.out]
                          exact HKE.out)
                      clear hb5 hcz HST HSTz HB HBz
                      have HST := HST5
                      clear HST5
                      as_aux_lemma =>
                        by_cases hzz : z = 0
                        · subst hzz
                          have HRR : Hid (R = (0, 0, 11)) := Lib.hid (by
                            rw [← HR.out]
                            have := one_none (t := t) (seen := L) (sit := (isW t.th.length q.it && sees q.it)) (it := q.it) HDR.out HNK.out (by rw [HTW.out, Nat.sub_self])
                            rw [this, HAN1.out])
                          go_wp2_with fail
                          go_ret3
                          exact ⟨by rw [HRR.out]; rfl, HST.out.bl⟩
                        · have ez : ((z : Int) == (0 : Int)) = false := by simp; omega
                          have HRG : Hid (R = resN (L.filter (fun y => isN t y (((ws.map keyW).drop 0).take (z - 0)))) z) := Lib.hid (by
                            rw [← HR.out]
                            have := one_go (t := t) (seen := L) (sit := (isW t.th.length q.it && sees q.it)) (it := q.it) HDR.out HNK.out HTW.out (by omega)
                            rw [this, HAN1.out, show 0 + (z - 0) = z by omega])
                          have hln : ((ws.drop 0).take (z - 0)).length = z - 0 := by rw [List.length_take, List.length_drop, HWM.out]; omega
                          have hmk : ((ws.drop 0).take (z - 0)).map keyW = ((ws.map keyW).drop 0).take (z - 0) := by rw [List.map_take, List.map_drop]
                          have HISP := Lib.hid (fun y w' (hb : Below w.heap.size w w') => HIS.out y (some ⟨b, o + 0, none⟩) ((ws.drop 0).take (z - 0)) (c - 0) w' hb ((HWD.out w' hb).mid 0 (z - 0) (by rw [HWM.out]; omega)) (by rw [hln]; unfold maxLen; omega))
                          rw [hln, hmk] at HISP
                          try simp only [Nat.add_zero, Nat.sub_zero] at HISP
                          obtain ⟨P, hP⟩ : ∃ P : Int → Bool, (fun y => isN t y (((ws.map keyW).drop 0).take (z - 0))) = P := ⟨_, rfl⟩
                          have HP : Hid (∀ y, isN t y (((ws.map keyW).drop 0).take (z - 0)) = P y) := Lib.hid (fun y => by rw [← hP])
                          try simp only [Nat.sub_zero] at HP
                          rw [hP] at HRG
                          clear hln hmk hP
                          have hbx := HST.out.bo.cell
                          obtain ⟨nl, hnl⟩ : ∃ nl, L.length = nl := ⟨_, rfl⟩
                          have HNL := Lib.hid hnl
                          rw [hnl] at hbx
                          have HINL := Lib.hid (HST.out.row.ints (by unfold maxLen; omega))
                          have hsl' : nl ≤ 1000 := by omega
                          clear hnl
                          go_wp2_with fail
                          clear hbx ez
                          go_loopw [14, 94] (fun tv iv wr3 => ∃ (i : Nat) (th : Int), tv = .int .i64 th ∧ iv = .int .i64 i ∧ i ≤ nl ∧ 0 ≤ th ∧ Hid ((L.take i).filter P = if th = 0 then [] else [th]) ∧ Hid (Below (w5).heap.size w5 wr3)) (fun _ iv _ => nl - (intOf iv).toNat)
                          case atStart => exact ⟨0, 0, rfl, rfl, Nat.zero_le _, Int.le_refl _, Lib.hid (by simp), Lib.hid (Below.refl _ _)⟩
                          case round =>
                            obtain ⟨i, th, rfl, rfl, hil, hth0, HF, HB3⟩ := hrel
                            have HST3 := Lib.hid (HST.out.below HB3.out)
                            by_cases hi3 : i < nl
                            · have hi32 : (i : Int) < (nl : Int) := by omega
                              have hiL : i < L.length := by rw [HNL.out]; exact hi3
                              obtain ⟨bl, ol, hal, hbl, hcl⟩ := (HINL.out.below HB3.out).at2 (by omega)
                              subst hal
                              have hcy := hcl i hiL
                              have HMEM := Lib.hid (List.getElem_mem hiL)
                              have HTK : Hid ((L.take (i + 1)).filter P = (L.take i).filter P ++ (if P L[i] = true then [L[i]] else [])) := Lib.hid (by
                                rw [List.take_succ_eq_append_getElem hiL, List.filter_append]
                                congr 1
                                by_cases hp : P L[i] = true <;> simp [hp])
                              have HSP : Hid (∃ rest, L.filter P = (L.take i).filter P ++ (if P L[i] = true then [L[i]] else []) ++ rest) := Lib.hid ⟨(L.drop (i + 1)).filter P, by rw [← HTK.out, ← List.filter_append, List.take_append_drop]⟩
                              generalize L[i] = y at *
                              obtain ⟨hy1, hy2⟩ := HLR.out y HMEM.out
                              have HISy := Lib.hid (HISP.out y)
                              obtain ⟨pv, hpv⟩ : ∃ r, P y = r := ⟨_, rfl⟩
                              rw [HP.out, hpv] at HISy
                              rw [hpv] at HTK HSP
                              clear hcl hpv
                              have HSTt := Lib.hid HST3.out.bt
                              obtain ⟨kt0, kt1, kt2, kt3, kt4, kt5, kt6, kt7, kt8, kt9, kt10, kt11, kt12, kt13, kt14⟩ := tab15 (HSTt.out)
                              have hzt : w.heap.size < wr.heap.size := HSTt.out.lt
                              have hcA2 : (0 : Int) ≤ (z : Int) := by omega
                              have hcz2 : (z : Int) ≤ (c : Int) := by omega
                              have hcne : ¬ (c = 0) := by omega
                              cases pv with
                              | false =>
                                go_wp2_with fail
                                refine region_text (fun w' => Below wr.heap.size wr w') (by kernel_rfl) (by kernel_rfl) ((Below.refl _ _).drew) (fun KK hKK => ?_)
                                intro OPS
                                try simp only [List.append]
                                repeat (first
                                  | (refine' inText_val ?_ ?_ ?_ ?_
                                     rotate_left 2
                                     · rfl
                                     · (intro w' hS; obtain ⟨hcc, hff⟩ := bcell hS; go_simp; first | with_reducible rfl | skip)
                                     · (simp only [Act.put, List.setIfInBounds_toArray, List.set_cons_zero, List.set_cons_succ]; with_reducible rfl))
                                  | (refine' inText_call ?_ ?_ ?_ ?_ ?_
                                     rotate_left 4
                                     · rfl
                                     · (intro w' hS; obtain ⟨hcc, hff⟩ := bcell hS; go_simp; exact ⟨rfl, rfl⟩)
                                     · (intro w' hS
                                        ((with_reducible refine (HISy.out w' (HST3.out.bl.trans (hS.mono (by omega)))).mono ?_); exact fun e w'' h => ⟨h.1, bl_then hS h.2⟩))
                                     · (simp only [Act.put, List.setIfInBounds_toArray, List.set_cons_zero, List.set_cons_succ]; with_reducible rfl)))
                                refine inText_nil (hKK.out _ (fun w9 hS => ?_))
                                have HB9 := Lib.hid (bl_then HB3.out hS)
                                clear hS hKK OPS
                                clear kt0 kt1 kt2 kt3 kt4 kt5 kt6 kt7 kt8 kt9 kt10 kt11 kt12 kt13 kt14
                                have HF2 : Hid ((L.take (i + 1)).filter P = if th = 0 then [] else [th]) := Lib.hid (by rw [HTK.out]; simpa using HF.out)
                                go_wp2_with fail
                                go_roundw
                                case rel => exact ⟨i + 1, th, rfl, by go_num, by omega, hth0, HF2, HB9⟩
                                case measure => simp [intOf]; omega
                              | true =>
                                have HF3 := Lib.hid HF.out
                                by_cases hth : th = 0
                                · subst hth
                                  go_wp2_with fail
                                  refine region_text (fun w' => Below wr.heap.size wr w') (by kernel_rfl) (by kernel_rfl) ((Below.refl _ _).drew) (fun KK hKK => ?_)
                                  intro OPS
                                  try simp only [List.append]
                                  repeat (first
                                    | (refine' inText_val ?_ ?_ ?_ ?_
                                       rotate_left 2
                                       · rfl
                                       · (intro w' hS; obtain ⟨hcc, hff⟩ := bcell hS; go_simp; first | with_reducible rfl | skip)
                                       · (simp only [Act.put, List.setIfInBounds_toArray, List.set_cons_zero, List.set_cons_succ]; with_reducible rfl))
                                    | (refine' inText_call ?_ ?_ ?_ ?_ ?_
                                       rotate_left 4
                                       · rfl
                                       · (intro w' hS; obtain ⟨hcc, hff⟩ := bcell hS; go_simp; exact ⟨rfl, rfl⟩)
                                       · (intro w' hS
                                          ((with_reducible refine (HISy.out w' (HST3.out.bl.trans (hS.mono (by omega)))).mono ?_); exact fun e w'' h => ⟨h.1, bl_then hS h.2⟩))
                                       · (simp only [Act.put, List.setIfInBounds_toArray, List.set_cons_zero, List.set_cons_succ]; with_reducible rfl)))
                                  refine inText_nil (hKK.out _ (fun w9 hS => ?_))
                                  have HB9 := Lib.hid (bl_then HB3.out hS)
                                  clear hS hKK OPS
                                  clear kt0 kt1 kt2 kt3 kt4 kt5 kt6 kt7 kt8 kt9 kt10 kt11 kt12 kt13 kt14
                                  have HF2 : Hid ((L.take (i + 1)).filter P = if y = 0 then [] else [y]) := Lib.hid (by
                                    have h1 := HTK.out
                                    have h2 := HF.out
                                    rw [if_neg (by omega), h1]
                                    simp [h2])
                                  go_wp2_with fail
                                  go_roundw
                                  case rel => exact ⟨i + 1, y, rfl, by go_num, by omega, by omega, HF2, HB9⟩
                                  case measure => simp [intOf]; omega
                                · have hthp : (0 : Int) < th := by omega
                                  have HRR : Hid (R = (0, z, 10)) := Lib.hid (by
                                    obtain ⟨rest, hr⟩ := HSP.out
                                    have h2 := HF.out
                                    rw [if_neg hth] at h2
                                    rw [HRG.out, hr, h2]
                                    rfl)
                                  clear hth
                                  go_wp2_with fail
                                  refine region_text (fun w' => Below wr.heap.size wr w') (by kernel_rfl) (by kernel_rfl) ((Below.refl _ _).drew) (fun KK hKK => ?_)
                                  intro OPS
                                  try simp only [List.append]
                                  repeat (first
                                    | (refine' inText_val ?_ ?_ ?_ ?_
                                       rotate_left 2
                                       · rfl
                                       · (intro w' hS; obtain ⟨hcc, hff⟩ := bcell hS; go_simp; first | with_reducible rfl | skip)
                                       · (simp only [Act.put, List.setIfInBounds_toArray, List.set_cons_zero, List.set_cons_succ]; with_reducible rfl))
                                    | (refine' inText_call ?_ ?_ ?_ ?_ ?_
                                       rotate_left 4
                                       · rfl
                                       · (intro w' hS; obtain ⟨hcc, hff⟩ := bcell hS; go_simp; exact ⟨rfl, rfl⟩)
                                       · (intro w' hS
                                          ((with_reducible refine (HISy.out w' (HST3.out.bl.trans (hS.mono (by omega)))).mono ?_); exact fun e w'' h => ⟨h.1, bl_then hS h.2⟩))
                                       · (simp only [Act.put, List.setIfInBounds_toArray, List.set_cons_zero, List.set_cons_succ]; with_reducible rfl)))
                                  refine inText_nil (hKK.out _ (fun w9 hS => ?_))
                                  have HB9 := Lib.hid (bl_then HB3.out hS)
                                  clear hS hKK OPS
                                  clear kt0 kt1 kt2 kt3 kt4 kt5 kt6 kt7 kt8 kt9 kt10 kt11 kt12 kt13 kt14
                                  go_wp2_with fail
                                  go_ret3
                                  exact ⟨by rw [HRR.out]; rfl, (HST.out.below HB9.out).bl⟩
                            · have HFF : Hid (L.filter P = if th = 0 then [] else [th]) := Lib.hid (by rw [← HF.out, List.take_of_length_le (by rw [HNL.out]; omega)])
                              by_cases hth : th = 0
                              · subst hth
                                have HRR : Hid (R = (0, z, 11)) := Lib.hid (by rw [HRG.out, HFF.out, if_pos rfl]; rfl)
                                go_wp2_with fail
                                go_ret3
                                exact ⟨by rw [HRR.out]; rfl, HST3.out.bl⟩
                              · have HRR : Hid (R = (th, z, 0)) := Lib.hid (by rw [HRG.out, HFF.out, if_neg hth]; rfl)
                                have hth2 : (th == 0) = false := by simp [hth]
                                clear hth
                                go_wp2_with fail
                                go_ret3
                                exact ⟨by rw [HRR.out]; rfl, HST3.out.bl⟩
                  · obtain rfl : z = m := by omega
                    have HTW : Hid ((((ws.map keyW).drop (artN (ws.map keyW))).takeWhile (knownN t L)).length = z - 0) := Lib.hid (by
                      rw [HAN1.out]
                      refine tw_len _ _ _ (by rw [List.length_drop, List.length_map, HWM.out]; omega) (fun j hj hjz => ?_) (fun hj => ?_)
                      · rw [List.getElem_drop, List.getElem_map]; exact HI.out _ (by rw [List.length_drop, List.length_map] at hj; omega) (by omega) (by omega)
                      · rw [List.length_drop, List.length_map, HWM.out] at hj; omega)
                    clear HST HB HBz
                    have HST := HSTz
                    clear HSTz
                    as_aux_lemma =>
                      by_cases hzz : z = 0
                      · subst hzz
                        have HRR : Hid (R = (0, 0, 11)) := Lib.hid (by
                          rw [← HR.out]
                          have := one_none (t := t) (seen := L) (sit := (isW t.th.length q.it && sees q.it)) (it := q.it) HDR.out HNK.out (by rw [HTW.out, Nat.sub_self])
                          rw [this, HAN1.out])
                        go_wp2_with fail
                        go_ret3
                        exact ⟨by rw [HRR.out]; rfl, HST.out.bl⟩
                      · have ez : ((z : Int) == (0 : Int)) = false := by simp; omega
                        have HRG : Hid (R = resN (L.filter (fun y => isN t y (((ws.map keyW).drop 0).take (z - 0)))) z) := Lib.hid (by
                          rw [← HR.out]
                          have := one_go (t := t) (seen := L) (sit := (isW t.th.length q.it && sees q.it)) (it := q.it) HDR.out HNK.out HTW.out (by omega)
                          rw [this, HAN1.out, show 0 + (z - 0) = z by omega])
                        have hln : ((ws.drop 0).take (z - 0)).length = z - 0 := by rw [List.length_take, List.length_drop, HWM.out]; omega
                        have hmk : ((ws.drop 0).take (z - 0)).map keyW = ((ws.map keyW).drop 0).take (z - 0) := by rw [List.map_take, List.map_drop]
                        have HISP := Lib.hid (fun y w' (hb : Below w.heap.size w w') => HIS.out y (some ⟨b, o + 0, none⟩) ((ws.drop 0).take (z - 0)) (c - 0) w' hb ((HWD.out w' hb).mid 0 (z - 0) (by rw [HWM.out]; omega)) (by rw [hln]; unfold maxLen; omega))
                        rw [hln, hmk] at HISP
                        try simp only [Nat.add_zero, Nat.sub_zero] at HISP
                        obtain ⟨P, hP⟩ : ∃ P : Int → Bool, (fun y => isN t y (((ws.map keyW).drop 0).take (z - 0))) = P := ⟨_, rfl⟩
                        have HP : Hid (∀ y, isN t y (((ws.map keyW).drop 0).take (z - 0)) = P y) := Lib.hid (fun y => by rw [← hP])
                        try simp only [Nat.sub_zero] at HP
                        rw [hP] at HRG
                        clear hln hmk hP
                        have hbx := HST.out.bo.cell
                        obtain ⟨nl, hnl⟩ : ∃ nl, L.length = nl := ⟨_, rfl⟩
                        have HNL := Lib.hid hnl
                        rw [hnl] at hbx
                        have HINL := Lib.hid (HST.out.row.ints (by unfold maxLen; omega))
                        have hsl' : nl ≤ 1000 := by omega
                        clear hnl
                        go_wp2_with fail
                        clear hbx ez
                        go_loopw [14, 94] (fun tv iv wr3 => ∃ (i : Nat) (th : Int), tv = .int .i64 th ∧ iv = .int .i64 i ∧ i ≤ nl ∧ 0 ≤ th ∧ Hid ((L.take i).filter P = if th = 0 then [] else [th]) ∧ Hid (Below (wr).heap.size wr wr3)) (fun _ iv _ => nl - (intOf iv).toNat)
                        case atStart => exact ⟨0, 0, rfl, rfl, Nat.zero_le _, Int.le_refl _, Lib.hid (by simp), Lib.hid (Below.refl _ _)⟩
                        case round =>
                          obtain ⟨i, th, rfl, rfl, hil, hth0, HF, HB3⟩ := hrel
                          have HST3 := Lib.hid (HST.out.below HB3.out)
                          by_cases hi3 : i < nl
                          · have hi32 : (i : Int) < (nl : Int) := by omega
                            have hiL : i < L.length := by rw [HNL.out]; exact hi3
                            obtain ⟨bl, ol, hal, hbl, hcl⟩ := (HINL.out.below HB3.out).at2 (by omega)
                            subst hal
                            have hcy := hcl i hiL
                            have HMEM := Lib.hid (List.getElem_mem hiL)
                            have HTK : Hid ((L.take (i + 1)).filter P = (L.take i).filter P ++ (if P L[i] = true then [L[i]] else [])) := Lib.hid (by
                              rw [List.take_succ_eq_append_getElem hiL, List.filter_append]
                              congr 1
                              by_cases hp : P L[i] = true <;> simp [hp])
                            have HSP : Hid (∃ rest, L.filter P = (L.take i).filter P ++ (if P L[i] = true then [L[i]] else []) ++ rest) := Lib.hid ⟨(L.drop (i + 1)).filter P, by rw [← HTK.out, ← List.filter_append, List.take_append_drop]⟩
                            generalize L[i] = y at *
                            obtain ⟨hy1, hy2⟩ := HLR.out y HMEM.out
                            have HISy := Lib.hid (HISP.out y)
                            obtain ⟨pv, hpv⟩ : ∃ r, P y = r := ⟨_, rfl⟩
                            rw [HP.out, hpv] at HISy
                            rw [hpv] at HTK HSP
                            clear hcl hpv
                            have HSTt := Lib.hid HST3.out.bt
                            obtain ⟨kt0, kt1, kt2, kt3, kt4, kt5, kt6, kt7, kt8, kt9, kt10, kt11, kt12, kt13, kt14⟩ := tab15 (HSTt.out)
                            have hzt : w.heap.size < wr.heap.size := HSTt.out.lt
                            have hcA2 : (0 : Int) ≤ (z : Int) := by omega
                            have hcz2 : (z : Int) ≤ (c : Int) := by omega
                            have hcne : ¬ (c = 0) := by omega
                            cases pv with
                            | false =>
                              go_wp2_with fail
                              refine region_text (fun w' => Below wr.heap.size wr w') (by kernel_rfl) (by kernel_rfl) ((Below.refl _ _).drew) (fun KK hKK => ?_)
                              intro OPS
                              try simp only [List.append]
                              repeat (first
                                | (refine' inText_val ?_ ?_ ?_ ?_
                                   rotate_left 2
                                   · rfl
                                   · (intro w' hS; obtain ⟨hcc, hff⟩ := bcell hS; go_simp; first | with_reducible rfl | skip)
                                   · (simp only [Act.put, List.setIfInBounds_toArray, List.set_cons_zero, List.set_cons_succ]; with_reducible rfl))
                                | (refine' inText_call ?_ ?_ ?_ ?_ ?_
                                   rotate_left 4
                                   · rfl
                                   · (intro w' hS; obtain ⟨hcc, hff⟩ := bcell hS; go_simp; exact ⟨rfl, rfl⟩)
                                   · (intro w' hS
                                      ((with_reducible refine (HISy.out w' (HST3.out.bl.trans (hS.mono (by omega)))).mono ?_); exact fun e w'' h => ⟨h.1, bl_then hS h.2⟩))
                                   · (simp only [Act.put, List.setIfInBounds_toArray, List.set_cons_zero, List.set_cons_succ]; with_reducible rfl)))
                              refine inText_nil (hKK.out _ (fun w9 hS => ?_))
                              have HB9 := Lib.hid (bl_then HB3.out hS)
                              clear hS hKK OPS
                              clear kt0 kt1 kt2 kt3 kt4 kt5 kt6 kt7 kt8 kt9 kt10 kt11 kt12 kt13 kt14
                              have HF2 : Hid ((L.take (i + 1)).filter P = if th = 0 then [] else [th]) := Lib.hid (by rw [HTK.out]; simpa using HF.out)
                              go_wp2_with fail
                              go_roundw
                              case rel => exact ⟨i + 1, th, rfl, by go_num, by omega, hth0, HF2, HB9⟩
                              case measure => simp [intOf]; omega
                            | true =>
                              have HF3 := Lib.hid HF.out
                              by_cases hth : th = 0
                              · subst hth
                                go_wp2_with fail
                                refine region_text (fun w' => Below wr.heap.size wr w') (by kernel_rfl) (by kernel_rfl) ((Below.refl _ _).drew) (fun KK hKK => ?_)
                                intro OPS
                                try simp only [List.append]
                                repeat (first
                                  | (refine' inText_val ?_ ?_ ?_ ?_
                                     rotate_left 2
                                     · rfl
                                     · (intro w' hS; obtain ⟨hcc, hff⟩ := bcell hS; go_simp; first | with_reducible rfl | skip)
                                     · (simp only [Act.put, List.setIfInBounds_toArray, List.set_cons_zero, List.set_cons_succ]; with_reducible rfl))
                                  | (refine' inText_call ?_ ?_ ?_ ?_ ?_
                                     rotate_left 4
                                     · rfl
                                     · (intro w' hS; obtain ⟨hcc, hff⟩ := bcell hS; go_simp; exact ⟨rfl, rfl⟩)
                                     · (intro w' hS
                                        ((with_reducible refine (HISy.out w' (HST3.out.bl.trans (hS.mono (by omega)))).mono ?_); exact fun e w'' h => ⟨h.1, bl_then hS h.2⟩))
                                     · (simp only [Act.put, List.setIfInBounds_toArray, List.set_cons_zero, List.set_cons_succ]; with_reducible rfl)))
                                refine inText_nil (hKK.out _ (fun w9 hS => ?_))
                                have HB9 := Lib.hid (bl_then HB3.out hS)
                                clear hS hKK OPS
                                clear kt0 kt1 kt2 kt3 kt4 kt5 kt6 kt7 kt8 kt9 kt10 kt11 kt12 kt13 kt14
                                have HF2 : Hid ((L.take (i + 1)).filter P = if y = 0 then [] else [y]) := Lib.hid (by
                                  have h1 := HTK.out
                                  have h2 := HF.out
                                  rw [if_neg (by omega), h1]
                                  simp [h2])
                                go_wp2_with fail
                                go_roundw
                                case rel => exact ⟨i + 1, y, rfl, by go_num, by omega, by omega, HF2, HB9⟩
                                case measure => simp [intOf]; omega
                              · have hthp : (0 : Int) < th := by omega
                                have HRR : Hid (R = (0, z, 10)) := Lib.hid (by
                                  obtain ⟨rest, hr⟩ := HSP.out
                                  have h2 := HF.out
                                  rw [if_neg hth] at h2
                                  rw [HRG.out, hr, h2]
                                  rfl)
                                clear hth
                                go_wp2_with fail
                                refine region_text (fun w' => Below wr.heap.size wr w') (by kernel_rfl) (by kernel_rfl) ((Below.refl _ _).drew) (fun KK hKK => ?_)
                                intro OPS
                                try simp only [List.append]
                                repeat (first
                                  | (refine' inText_val ?_ ?_ ?_ ?_
                                     rotate_left 2
                                     · rfl
                                     · (intro w' hS; obtain ⟨hcc, hff⟩ := bcell hS; go_simp; first | with_reducible rfl | skip)
                                     · (simp only [Act.put, List.setIfInBounds_toArray, List.set_cons_zero, List.set_cons_succ]; with_reducible rfl))
                                  | (refine' inText_call ?_ ?_ ?_ ?_ ?_
                                     rotate_left 4
                                     · rfl
                                     · (intro w' hS; obtain ⟨hcc, hff⟩ := bcell hS; go_simp; exact ⟨rfl, rfl⟩)
                                     · (intro w' hS
                                        ((with_reducible refine (HISy.out w' (HST3.out.bl.trans (hS.mono (by omega)))).mono ?_); exact fun e w'' h => ⟨h.1, bl_then hS h.2⟩))
                                     · (simp only [Act.put, List.setIfInBounds_toArray, List.set_cons_zero, List.set_cons_succ]; with_reducible rfl)))
                                refine inText_nil (hKK.out _ (fun w9 hS => ?_))
                                have HB9 := Lib.hid (bl_then HB3.out hS)
                                clear hS hKK OPS
                                clear kt0 kt1 kt2 kt3 kt4 kt5 kt6 kt7 kt8 kt9 kt10 kt11 kt12 kt13 kt14
                                go_wp2_with fail
                                go_ret3
                                exact ⟨by rw [HRR.out]; rfl, (HST.out.below HB9.out).bl⟩
                          · have HFF : Hid (L.filter P = if th = 0 then [] else [th]) := Lib.hid (by rw [← HF.out, List.take_of_length_le (by rw [HNL.out]; omega)])
                            by_cases hth : th = 0
                            · subst hth
                              have HRR : Hid (R = (0, z, 11)) := Lib.hid (by rw [HRG.out, HFF.out, if_pos rfl]; rfl)
                              go_wp2_with fail
                              go_ret3
                              exact ⟨by rw [HRR.out]; rfl, HST3.out.bl⟩
                            · have HRR : Hid (R = (th, z, 0)) := Lib.hid (by rw [HRG.out, HFF.out, if_neg hth]; rfl)
                              have hth2 : (th == 0) = false := by simp [hth]
                              clear hth
                              go_wp2_with fail
                              go_ret3
                              exact ⟨by rw [HRR.out]; rfl, HST3.out.bl⟩
end Go.Proofs.YtjggklfegcejhaaGreat
