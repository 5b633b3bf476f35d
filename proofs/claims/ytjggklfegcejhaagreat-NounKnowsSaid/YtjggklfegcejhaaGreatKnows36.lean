/- The walk of NounKnows. -/
import Derived.Test.YtjggklfegcejhaaGreatLawAM
import Derived.Test.YtjggklfegcejhaaGreatDictMake
import Derived.Test.YtjggklfegcejhaaGreatDictFi
namespace Go.Proofs.YtjggklfegcejhaaGreat
open Go.RowKit Go.PlainAid Go.Deep
set_option linter.unusedVariables false
set_option linter.unusedSimpArgs false

theorem and_val (a b : Nat) (ha : a < 64) (hb : b < 64) : bits BinOp.and IntKind.i64 (a : Int) (b : Int) = ((a &&& b : Nat) : Int) := by
 show IntKind.i64.wrap ((BitVec.ofInt 64 (a : Int) &&& BitVec.ofInt 64 (b : Int)).toNat : Int) = _
 have h : a &&& b ≤ a := Nat.and_le_left
 have e : (BitVec.ofInt 64 (a : Int) &&& BitVec.ofInt 64 (b : Int)).toNat = a &&& b := by
  rw [BitVec.toNat_and, BitVec.ofInt_natCast, BitVec.ofInt_natCast, BitVec.toNat_ofNat, BitVec.toNat_ofNat, Nat.mod_eq_of_lt (by omega), Nat.mod_eq_of_lt (by omega)]
 rw [e]
 exact IntWalk.i64_in _ (by omega)
theorem fits_few {t : TbC} (h : FitsOk t) : TabFew t where
 th := h.th.len.2
 wd := fun y hy => ⟨(h.th.words y hy).1.2, (h.th.words y hy).2.2⟩
 ac := h.ru.ac
 ln := fun a ha => (h.ru.ln a ha).1.2
 sl := fun a ha l hl => ((h.ru.ln a ha).2 l hl).2.2.1
 sw := fun a ha l hl s hs => (((h.ru.ln a ha).2 l hl).1 s hs).2.2.2.1
theorem has_noun {t : TbC} {y : ThC} {s : TxC} (hy : y ∈ t.th) (hs : s ∈ y.wd) : (1, s) ∈ adsP t :=
 List.mem_append_left _ (List.mem_append_left _ (List.mem_flatten.2 ⟨_, List.mem_map_of_mem hy, List.mem_append_left _ (List.mem_map_of_mem hs)⟩))
theorem has_adj {t : TbC} {y : ThC} {s : TxC} (hy : y ∈ t.th) (hs : s ∈ y.ad) : (2, s) ∈ adsP t :=
 List.mem_append_left _ (List.mem_append_left _ (List.mem_flatten.2 ⟨_, List.mem_map_of_mem hy, List.mem_append_right _ (List.mem_map_of_mem hs)⟩))
theorem has_extra {t : TbC} {s : TxC} (hs : s ∈ extraW) : (32, s) ∈ adsP t :=
 List.mem_append_right _ (List.mem_append_right _ (List.mem_map_of_mem hs))
/-- A word that is in the dictionary with one of some bits. -/
theorem and_mask {a n m : Nat} (h1 : a &&& n = n) (h2 : m &&& n = n) (h0 : n ≠ 0) : a &&& m ≠ 0 := fun h => by
 have e : (a &&& m) &&& n = n := by rw [Nat.and_assoc, h2, h1]
 rw [h, Nat.zero_and] at e
 exact h0 e.symm
theorem bits_mask {ad : List Ad} {D : List EnC} {n m : Nat} {k : List UInt8} (hd : DictIs ad D) (hok : AdsOk ad) (hm : m < 64) (h2 : m &&& n = n) (h0 : n ≠ 0) (h : (n, k) ∈ ad) : bits BinOp.and IntKind.i64 (bitsE D k) (m : Int) ≠ 0 := by
 rw [bitsE_dict hd, and_val _ _ (bitsA_lt (fun a ha => (hok a ha).1) k) hm]
 have := and_mask (bitsA_has h) h2 h0
 omega
theorem find_in {ad : List Ad} {D : List EnC} {n : Nat} {k : List UInt8} (hd : DictIs ad D) (h : (n, k) ∈ ad) : 0 ≤ findE D k := by
 rcases findE_cases D k with ⟨i, hi, h1, _⟩ | ⟨_, h2⟩
 · omega
 · exact absurd rfl (h2 ⟨k, (bitsA ad k : Int)⟩ ((hd.2 _).2 ⟨⟨_, h, rfl⟩, rfl⟩))
def KnowW (t : TbC) (k : TxC) : Prop := ∃ n : Nat, (n = 1 ∨ n = 2 ∨ n = 32) ∧ (n, k) ∈ adsP t
def LastW (t : TbC) (k : TxC) : Prop := ∃ n : Nat, (n = 1 ∨ n = 32) ∧ (n, k) ∈ adsP t
theorem the_extra {k : TxC} (h : theL.contains k = true) : k ∈ extraW := by
 rw [List.contains_iff_mem] at h
 have : ∀ x ∈ theL, x ∈ extraW := by decide
 exact this k h
theorem art_word {t : TbC} {ks : List TxC} {j : Nat} (hj : j < ks.length) (h : j < artN ks) : KnowW t ks[j] := by
 unfold artN at h
 split at h
 · rename_i k r
   split at h
   · rename_i hc
     obtain rfl : j = 0 := by omega
     exact ⟨32, .inr (.inr rfl), has_extra (the_extra hc)⟩
   · omega
 · simp at hj
theorem known_word {t : TbC} {seen : List Int} {k : TxC} (h : knownN t seen k = true) : KnowW t k := by
 unfold knownN at h
 rw [List.any_eq_true] at h
 obtain ⟨x, _, hx⟩ := h
 unfold hasX at hx
 split at hx
 · rename_i y hy
   have hm := List.mem_of_getElem? hy
   unfold hasT at hx
   rw [Bool.or_eq_true, List.contains_iff_mem, List.contains_iff_mem] at hx
   rcases hx with h1 | h1
   · exact ⟨1, .inl rfl, has_noun hm h1⟩
   · exact ⟨2, .inr (.inl rfl), has_adj hm h1⟩
 · cases hx
theorem tw_at {α : Type} {p : α → Bool} : ∀ (l : List α) (j : Nat) (h : j < l.length), j < (l.takeWhile p).length → p l[j] = true
 | [], j, h, _ => by simp at h
 | a :: l, 0, h, h2 => by
   cases hp : p a with
   | true => exact hp
   | false => simp [List.takeWhile_cons, hp] at h2
 | a :: l, j + 1, h, h2 => by
   cases hp : p a with
   | true =>
     rw [List.takeWhile_cons, hp] at h2
     exact tw_at l j (by simpa using h) (by simpa using h2)
   | false => simp [List.takeWhile_cons, hp] at h2
theorem isN_last {t : TbC} {x : Int} {ks : List TxC} (h : isN t x ks = true) : LastW t (ks.getLastD []) := by
 unfold isN at h
 rw [Bool.and_eq_true] at h
 have h2 := h.2
 split at h2
 · rename_i y hy
   rw [Bool.and_eq_true, List.contains_iff_mem] at h2
   exact ⟨1, .inl rfl, has_noun (List.mem_of_getElem? hy) h2.2⟩
 · cases h2
theorem one_words {t : TbC} {seen : List Int} {sit : Bool} {it x : Int} {us : Nat} {ks : List TxC} (h : oneN t seen sit it ks = (x, us, 0)) :
    0 < us ∧ us ≤ ks.length ∧ (∀ j (hj : j < ks.length), j < us → KnowW t ks[j]) ∧ (∀ hj : us - 1 < ks.length, LastW t ks[us - 1]) := by
 have h9 := one_used t seen sit it ks
 rw [h] at h9
 have h9 : us ≤ ks.length := h9
 unfold oneN at h
 cases hd : ks.drop (artN ks) with
 | nil => rw [hd] at h; simp at h
 | cons k r =>
   rw [hd] at h
   have hA : artN ks < ks.length := by
    have := congrArg List.length hd
    rw [List.length_drop, List.length_cons] at this; omega
   have hk : ks[artN ks] = k := by
    have := congrArg (fun l => l[0]?) hd
    rw [List.getElem?_drop, List.getElem?_cons_zero, Nat.add_zero, List.getElem?_eq_getElem hA] at this
    exact Option.some.inj this
   simp only at h
   split at h
   · rename_i hit
     split at h
     · simp only [Prod.mk.injEq, and_true] at h
       obtain ⟨_, rfl⟩ := h
       refine ⟨by omega, h9, fun j hj hju => ?_, fun hj => ?_⟩
       · by_cases e : j < artN ks
         · exact art_word hj e
         · obtain rfl : j = artN ks := by omega
           rw [hk, hit]
           exact ⟨32, .inr (.inr rfl), has_extra (by decide)⟩
       · have e : artN ks + 1 - 1 = artN ks := by omega
         simp only [e, hk, hit]
         exact ⟨32, .inr rfl, has_extra (by decide)⟩
     · simp at h
   · split at h
     · simp at h
     · rename_i hm0
       obtain ⟨m, hm⟩ : ∃ m, ((k :: r).takeWhile (knownN t seen)).length = m := ⟨_, rfl⟩
       rw [hm] at h hm0
       have hres : seen.filter (fun y => isN t y ((k :: r).take m)) = [x] ∧ artN ks + m = us := by
        unfold resN at h
        split at h
        · simp at h
        · rename_i z hz
          simp only [Prod.mk.injEq, and_true] at h
          exact ⟨by rw [hz, h.1], h.2⟩
        · simp at h
       obtain ⟨hF, rfl⟩ := hres
       have hx : isN t x ((k :: r).take m) = true := by
        have : x ∈ seen.filter (fun y => isN t y ((k :: r).take m)) := by rw [hF]; exact List.mem_singleton.2 rfl
        exact (List.mem_filter.1 this).2
       have hml : m ≤ (k :: r).length := by rw [← hm]; exact (List.takeWhile_sublist _).length_le
       have hlen : (k :: r).length = ks.length - artN ks := by rw [← hd, List.length_drop]
       have hat : ∀ j (hj : artN ks + j < ks.length) (hj2 : j < (k :: r).length), ks[artN ks + j] = (k :: r)[j] := fun j hj hj2 => by
        have := congrArg (fun l => l[j]?) hd
        rw [List.getElem?_drop, List.getElem?_eq_getElem hj, List.getElem?_eq_getElem hj2] at this
        exact Option.some.inj this
       refine ⟨by omega, h9, fun j hj hju => ?_, fun hj => ?_⟩
       · by_cases e : j < artN ks
         · exact art_word hj e
         · obtain ⟨i, rfl⟩ : ∃ i, j = artN ks + i := ⟨j - artN ks, by omega⟩
           have hi : i < (k :: r).length := by omega
           rw [hat i hj hi]
           exact known_word (tw_at _ i hi (by rw [hm]; omega))
       · have hl := isN_last hx
         obtain ⟨m', rfl⟩ : ∃ m', m = m' + 1 := ⟨m - 1, by omega⟩
         have e : artN ks + (m' + 1) - 1 = artN ks + m' := by omega
         have hi : m' < (k :: r).length := by omega
         simp only [e]
         rw [hat m' (by omega) hi]
         have e2 : ((k :: r).take (m' + 1)).getLastD [] = (k :: r)[m'] := by
          rw [List.getLastD_eq_getLast?, List.getLast?_eq_getElem?, List.length_take, Nat.min_eq_left hml, Nat.add_sub_cancel, List.getElem?_take_of_lt (by omega), List.getElem?_eq_getElem hi]; rfl
         rw [e2] at hl
         exact hl
set_option maxRecDepth 100000 in
set_option maxHeartbeats 16000000 in
theorem walkKnows (x : TAd) (t : TbC) (q : Wv) (d : WdC) (a : Option Addr) (ws : List TxC) (c : Nat) (w : World) (ht : TabIs w x t) (hw : WRd w q d) (hws : Wds w a ws) (hc : ws.length ≤ c) :
    Calls Tryz.prog 5 #[tabV x t, worldV q, .slice a ws.length c] w fun e w' => e = .returned (.bool true) ∧ Below w.heap.size w w' := by
 have hnew := Two.new x t q w
 obtain ⟨W0, hW0⟩ : ∃ W0, (w.alloc (.cells (tabC x t).toArray 28)).alloc (.cells (worldC q).toArray 31) = W0 := ⟨_, rfl⟩
 rw [hW0] at hnew
 have HMY := Lib.hid (fun w' (hb : Below w.heap.size w w') => mayC x t q d a ws c w' (ht.below hb) (hw.below hb) (hws.below hb))
 have HP1 := Lib.hid (fun (hk : MayOk t q d ws) w' (hb : Below w.heap.size w w') => itemC x t q d a ws c w' (ht.below hb) (hk.rt.ok hk.fit (hw.below hb)) (fun y => reach_few hk.rt (hk.rt.ok hk.fit hw) y) (hws.below hb) hc (Nat.le_trans hk.few (by decide)))
 have HMK := Lib.hid (fun (hk : MayOk t q d ws) w' (hb : Below w.heap.size w w') => dictMake x t w' (ht.below hb) (fits_few hk.fit))
 have HWDS := Lib.hid (adsP_ok (words_in ht))
 have HWD := Lib.hid (fun w' (hb : Below w.heap.size w w') => hws.below hb)
 have HWL := Lib.hid hws.1
 have HIF : Hid (∀ l us, itemN (oneW t q d (ws.map keyW)) = ⟨l, us, 0⟩ → 0 < us ∧ us ≤ ws.length ∧ (∀ j (hj : j < ws.length), j < us → KnowW t (keyW ws[j])) ∧ (∀ hj : us - 1 < ws.length, LastW t (keyW ws[us - 1]))) := Lib.hid (fun l us h => by
  obtain ⟨⟨x0, v, e⟩, hr⟩ : ∃ r, oneW t q d (ws.map keyW) = r := ⟨_, rfl⟩
  rw [hr] at h
  unfold itemN at h
  split at h
  · rename_i he
    simp only [PhC.mk.injEq] at h
    have he : e = 0 := he
    subst he
    obtain ⟨_, rfl, _⟩ := h
    obtain ⟨g1, g2, g3, g4⟩ := one_words hr
    rw [List.length_map] at g2
    refine ⟨g1, g2, fun j hj hju => ?_, fun hj => ?_⟩
    · have := g3 j (by rw [List.length_map]; exact hj) hju
      rwa [List.getElem_map] at this
    · have := g4 (by rw [List.length_map]; exact hj)
      rwa [List.getElem_map] at this
  · rename_i he
    simp only [PhC.mk.injEq] at h
    exact absurd h.2.2 he)
 generalize itemN (oneW t q d (ws.map keyW)) = PH at *
 obtain ⟨l, us, r⟩ := PH
 have HAW := Lib.hid (fun w' => awake36 w')
 obtain ⟨m, hm⟩ : ∃ m, ws.length = m := ⟨_, rfl⟩
 have HWM := Lib.hid hm
 rw [hm] at HMY HP1 ⊢
 have HCM : Hid (m ≤ c) := Lib.hid (by rw [← hm]; exact hc)
 clear ht hw hws hc hm
 have HTW := Lib.hid (hnew)
 have HTWt := Lib.hid HTW.out.bt
 have HTWw := Lib.hid HTW.out.bw
 obtain ⟨kt0, kt1, kt2, kt3, kt4, kt5, kt6, kt7, kt8, kt9, kt10, kt11, kt12, kt13, kt14⟩ := tab15 (HTWt.out)
 obtain ⟨b0, b1, b2, b3, b4, b5, b6, b7, b8, b9, bA, bB, bC⟩ := wd13 (HTWw.out)
 clear hnew
 unfold tabV worldV at *
 go_enter Tryz.func5, Tryz.ntmps5
 unfold worldC at HMY HP1 hW0 ⊢
 unfold tabC at HMY HP1 HMK hW0 ⊢
 go_wp2_with fail
 clear hW0
 refine (HMY.out _ HTW.out.bl).mono ?_
 rintro e w1 ⟨bm, rfl, hbm, hb1⟩
 have HBM := Lib.hid hbm
 have hnew := HTW.out.below hb1
 clear kt0 kt1 kt2 kt3 kt4 kt5 kt6 kt7 kt8 kt9 kt10 kt11 kt12 kt13 kt14
 clear b0 b1 b2 b3 b4 b5 b6 b7 b8 b9 bA bB bC
 clear HTWt HTWw
 clear HTW
 have HTW := Lib.hid (hnew)
 have HTWt := Lib.hid HTW.out.bt
 have HTWw := Lib.hid HTW.out.bw
 obtain ⟨kt0, kt1, kt2, kt3, kt4, kt5, kt6, kt7, kt8, kt9, kt10, kt11, kt12, kt13, kt14⟩ := tab15 (HTWt.out)
 obtain ⟨b0, b1, b2, b3, b4, b5, b6, b7, b8, b9, bA, bB, bC⟩ := wd13 (HTWw.out)
 clear hnew
 clear hbm hb1
 cases bm with
 | false =>
   go_wp2_with fail
   refine (HAW.out _).mono ?_
   rintro e w9 ⟨rfl, hb9⟩
   have HB9 := Lib.hid (bl_then HTW.out.bl hb9)
   clear hb9
   clear kt0 kt1 kt2 kt3 kt4 kt5 kt6 kt7 kt8 kt9 kt10 kt11 kt12 kt13 kt14
   clear b0 b1 b2 b3 b4 b5 b6 b7 b8 b9 bA bB bC
   clear HTWt HTWw
   go_wp2_with fail
   go_ret
   exact ⟨rfl, HB9.out⟩
 | true =>
   have HK := Lib.hid (HBM.out rfl)
   have HP1 := Lib.hid (HP1.out HK.out)
   have HMK := Lib.hid (HMK.out HK.out)
   clear HMY HBM
   go_wp2_with fail
   refine (HP1.out _ HTW.out.bl).mono ?_
   rintro e w4 ⟨ap, cp, rfl, hip, hbp, hfp⟩
   have hnew := HTW.out.below hbp
   clear kt0 kt1 kt2 kt3 kt4 kt5 kt6 kt7 kt8 kt9 kt10 kt11 kt12 kt13 kt14
   clear b0 b1 b2 b3 b4 b5 b6 b7 b8 b9 bA bB bC
   clear HTWt HTWw
   clear HTW
   have HTW := Lib.hid (hnew)
   have HTWt := Lib.hid HTW.out.bt
   have HTWw := Lib.hid HTW.out.bw
   obtain ⟨kt0, kt1, kt2, kt3, kt4, kt5, kt6, kt7, kt8, kt9, kt10, kt11, kt12, kt13, kt14⟩ := tab15 (HTWt.out)
   obtain ⟨b0, b1, b2, b3, b4, b5, b6, b7, b8, b9, bA, bB, bC⟩ := wd13 (HTWw.out)
   clear hnew
   clear hip hbp hfp
   dsimp only at HIF ⊢
   have HK5' : BK (w4.alloc (.cells #[.slice ap l.length cp, .int .i64 us, .int .i64 r] 36)) w4.heap.size [.slice ap l.length cp, .int .i64 us, .int .i64 r] 36 := BK.new w4 [.slice ap l.length cp, .int .i64 us, .int .i64 r] 36
   have HBa := bl_a (Below.refl w4.heap.size w4) (.cells #[.slice ap l.length cp, .int .i64 us, .int .i64 r] 36)
   go_upto_region 4 with (fail)
   generalize w4.alloc (.cells #[.slice ap l.length cp, .int .i64 us, .int .i64 r] 36) = W5 at HK5' HBa ⊢
   have HK5 := Lib.hid HK5'
   have hnew := HTW.out.below HBa
   clear kt0 kt1 kt2 kt3 kt4 kt5 kt6 kt7 kt8 kt9 kt10 kt11 kt12 kt13 kt14
   clear b0 b1 b2 b3 b4 b5 b6 b7 b8 b9 bA bB bC
   clear HTWt HTWw
   clear HTW
   have HTW := Lib.hid (hnew)
   have HTWt := Lib.hid HTW.out.bt
   have HTWw := Lib.hid HTW.out.bw
   obtain ⟨kt0, kt1, kt2, kt3, kt4, kt5, kt6, kt7, kt8, kt9, kt10, kt11, kt12, kt13, kt14⟩ := tab15 (HTWt.out)
   obtain ⟨b0, b1, b2, b3, b4, b5, b6, b7, b8, b9, bA, bB, bC⟩ := wd13 (HTWw.out)
   clear hnew
   clear HK5' HBa
   generalize w4.heap.size = p4 at *
   have hk5 := HK5.out
   have y0 := hk5.cell 0
   have y1 := hk5.cell 1
   have y2 := hk5.cell 2
   have hz5 := hk5.lt
   simp only [List.getElem?_cons_zero, List.getElem?_cons_succ] at y0 y1 y2
   clear hk5
   have hz0 : w.heap.size < (W5).heap.size := HTW.out.bt.lt
   have hz1 : w.heap.size + 1 < (W5).heap.size := HTW.out.bw.lt
   by_cases hr : r = 0
   · subst hr
     obtain ⟨hu0, hum, HKW, HLW⟩ : 0 < us ∧ us ≤ m ∧ Hid (∀ j (hj : j < ws.length), j < us → KnowW t (keyW ws[j])) ∧ Hid (∀ hj : us - 1 < ws.length, LastW t (keyW ws[us - 1])) := by
      obtain ⟨g1, g2, g3, g4⟩ := HIF.out l us rfl
      exact ⟨g1, by rw [← HWM.out]; exact g2, Lib.hid g3, Lib.hid g4⟩
     have hm20 : m ≤ 20 := by rw [← HWM.out]; exact HK.out.few
     have hui0 : ¬ ((us : Int) < 1) := by omega
     have hui1 : ¬ ((m : Int) < (us : Int)) := by omega
     clear HIF
     go_wp2_with fail
     refine (HMK.out _ HTW.out.bl).mono ?_
     rintro e w6 ⟨vd, D, rfl, hd, hv, hb6⟩
     have HD := Lib.hid hd
     have HV := Lib.hid hv
     obtain ⟨ad, cd, hvd, _, _⟩ := hv.len
     subst hvd
     have HDL : Hid (D.length ≤ 100000) := Lib.hid (Nat.le_trans (dict_len hd) (Nat.le_trans (adsP_le (fits_few HK.out.fit)) (by decide)))
     have HK6 := Lib.hid (HK5.out.below hb6)
     clear y0 y1 y2 hz5 hz0 hz1
     have hnew := HTW.out.below hb6
     clear kt0 kt1 kt2 kt3 kt4 kt5 kt6 kt7 kt8 kt9 kt10 kt11 kt12 kt13 kt14
     clear b0 b1 b2 b3 b4 b5 b6 b7 b8 b9 bA bB bC
     clear HTWt HTWw
     clear HTW
     have HTW := Lib.hid (hnew)
     have HTWt := Lib.hid HTW.out.bt
     have HTWw := Lib.hid HTW.out.bw
     obtain ⟨kt0, kt1, kt2, kt3, kt4, kt5, kt6, kt7, kt8, kt9, kt10, kt11, kt12, kt13, kt14⟩ := tab15 (HTWt.out)
     obtain ⟨b0, b1, b2, b3, b4, b5, b6, b7, b8, b9, bA, bB, bC⟩ := wd13 (HTWw.out)
     clear hnew
     clear hd hv hb6 HK5
     have hk5 := HK6.out
     have y0 := hk5.cell 0
     have y1 := hk5.cell 1
     have y2 := hk5.cell 2
     have hz5 := hk5.lt
     simp only [List.getElem?_cons_zero, List.getElem?_cons_succ] at y0 y1 y2
     clear hk5
     have hz0 : w.heap.size < (w6).heap.size := HTW.out.bt.lt
     have hz1 : w.heap.size + 1 < (w6).heap.size := HTW.out.bw.lt
     have HBT := Lib.hid (fun (s : TxC) w' (hb : Below w6.heap.size w6 w') (hs : s.length ≤ maxLen) => dictBits (.slice ad D.length cd) D ⟨s.toArray⟩ w' (HV.out.below hb) HD.out.1 HDL.out (by simpa [ByteArray.size] using hs))
     have HFD := Lib.hid (fun (s : TxC) w' (hb : Below w6.heap.size w6 w') (hs : s.length ≤ maxLen) => dictFind (.slice ad D.length cd) D ⟨s.toArray⟩ w' (HV.out.below hb) HD.out.1 HDL.out (by simpa [ByteArray.size] using hs))
     obtain ⟨nd, hnd⟩ : ∃ n, D.length = n := ⟨_, rfl⟩
     rw [hnd] at HBT HFD ⊢
     clear hnd
     have hm0 : 0 < ws.length := by rw [HWM.out]; omega
     obtain ⟨b, o, rfl, hb, hcs⟩ := (HWD.out _ HTW.out.bl).2 hm0
     have hcs' := Lib.hid hcs
     have hbw := hb
     clear hcs
     have hucm : us ≤ c := Nat.le_trans hum HCM.out
     have hui2 : (0 : Int) ≤ (us : Int) := by omega
     have hui3 : (us : Int) ≤ (c : Int) := by omega
     as_aux_lemma =>
      go_wp2_with fail
      clear y0 y1 y2 hz5 hz0 hz1
      clear kt0 kt1 kt2 kt3 kt4 kt5 kt6 kt7 kt8 kt9 kt10 kt11 kt12 kt13 kt14
      clear b0 b1 b2 b3 b4 b5 b6 b7 b8 b9 bA bB bC
      clear HTWt HTWw
      go_loopw [42] (fun iv wr => ∃ j : Nat, iv = .int .i64 j ∧ j ≤ us ∧ Hid (Below w6.heap.size w6 wr)) (fun iv _ => us - (intOf iv).toNat)
      case atStart => exact ⟨0, rfl, Nat.zero_le _, Lib.hid (Below.refl _ _)⟩
      case round =>
       obtain ⟨j, rfl, hju, HBL⟩ := hrel
       by_cases hlt : j < us
       · have hlt2 : (j : Int) < (us : Int) := by omega
         have hj0 : (0 : Int) ≤ (j : Int) := by omega
         have hjL : j < ws.length := by rw [HWM.out]; omega
         have hcj := (HBL.out.cell (p := ⟨b, o + j, none⟩) hbw).trans (hcs'.out j hjL)
         have HKJ := Lib.hid (HKW.out j hjL hlt)
         obtain ⟨s, hs⟩ : ∃ s, ws[j] = s := ⟨_, rfl⟩
         rw [hs] at hcj HKJ
         have hsl : s.length ≤ maxLen := HWL.out s (by rw [← hs]; exact List.getElem_mem hjL)
         have HB1 := Lib.hid (fun w' (hb : Below w6.heap.size w6 w') => HBT.out s w' hb hsl)
         have HF1 := Lib.hid (fun w' (hb : Below w6.heap.size w6 w') => HFD.out s w' hb hsl)
         have HQ : Hid (bits BinOp.and IntKind.i64 (bitsE D (keyW s)) 35 ≠ 0 ∧ 0 ≤ findE D (keyW s)) := Lib.hid (by
          obtain ⟨n, hn, hmem⟩ := HKJ.out
          refine ⟨?_, find_in HD.out hmem⟩
          rcases hn with rfl | rfl | rfl
          · exact bits_mask (m := 35) HD.out HWDS.out (by decide) (by decide) (by decide) hmem
          · exact bits_mask (m := 35) HD.out HWDS.out (by decide) (by decide) (by decide) hmem
          · exact bits_mask (m := 35) HD.out HWDS.out (by decide) (by decide) (by decide) hmem)
         clear hs hsl
         change Hid (∀ w', _ → Calls _ _ _ w' fun e w'' => e = .returned (.int .i64 (bitsE D (keyW s))) ∧ _) at HB1
         change Hid (∀ w', _ → Calls _ _ _ w' fun e w'' => e = .returned (.int .i64 (findE D (keyW s))) ∧ _) at HF1
         obtain ⟨q1, q2⟩ := HQ.out
         generalize bitsE D (keyW s) = z at *
         generalize findE D (keyW s) = f at *
         obtain ⟨zz, hzz⟩ : ∃ y, bits BinOp.and IntKind.i64 z 35 = y := ⟨_, rfl⟩
         rw [hzz] at q1
         have hq1 : (zz == 0) = false := by simp [q1]
         have hq2 : ¬ (f < 0) := by omega
         go_wp2_with fail
         refine (HB1.out _ HBL.out).mono ?_
         rintro e w7 ⟨rfl, hb7⟩
         have HB7 := Lib.hid (bl_then HBL.out hb7)
         clear hb7 hcj
         go_wp2_with fail
         refine (HF1.out _ HB7.out).mono ?_
         rintro e w8 ⟨rfl, hb8⟩
         have HB8 := Lib.hid (bl_then HB7.out hb8)
         clear hb8
         go_wp2_with fail
         go_roundw
         case rel => exact ⟨j + 1, by go_num, by omega, HB8⟩
         case measure => simp [intOf]; omega
       · have hjm : us - 1 < ws.length := by rw [HWM.out]; omega
         have hcj := (HBL.out.cell (p := ⟨b, o + (us - 1), none⟩) hbw).trans (hcs'.out (us - 1) hjm)
         have HKJ := Lib.hid (HLW.out hjm)
         obtain ⟨s, hs⟩ : ∃ s, ws[us - 1] = s := ⟨_, rfl⟩
         rw [hs] at hcj HKJ
         have hsl : s.length ≤ maxLen := HWL.out s (by rw [← hs]; exact List.getElem_mem hjm)
         have HB1 := Lib.hid (fun w' (hb : Below w6.heap.size w6 w') => HBT.out s w' hb hsl)
         have HQ : Hid (bits BinOp.and IntKind.i64 (bitsE D (keyW s)) 33 ≠ 0) := Lib.hid (by
          obtain ⟨n, hn, hmem⟩ := HKJ.out
          rcases hn with rfl | rfl
          · exact bits_mask (m := 33) HD.out HWDS.out (by decide) (by decide) (by decide) hmem
          · exact bits_mask (m := 33) HD.out HWDS.out (by decide) (by decide) (by decide) hmem)
         clear hs hsl
         change Hid (∀ w', _ → Calls _ _ _ w' fun e w'' => e = .returned (.int .i64 (bitsE D (keyW s))) ∧ _) at HB1
         have q1 := HQ.out
         generalize bitsE D (keyW s) = z at *
         obtain ⟨zz, hzz⟩ : ∃ y, bits BinOp.and IntKind.i64 z 33 = y := ⟨_, rfl⟩
         rw [hzz] at q1
         have hq1 : (zz == 0) = false := by simp [q1]
         have hq3 : (zz != 0) = true := by simp [q1]
         obtain ⟨uu, huu⟩ : ∃ v, us - 1 = v := ⟨_, rfl⟩
         rw [huu] at hcj
         have hus1 : us = uu + 1 := by omega
         have huum : (uu : Int) < (m : Int) := by omega
         have huu0 : (0 : Int) ≤ (uu : Int) := by omega
         obtain ⟨hsub, hsub2⟩ : IntKind.i64.wrap ((us : Int) - 1) = (uu : Int) ∧ wrap64 ((us : Int) - 1) = (uu : Int) := ⟨by rw [IntWalk.i64_in _ (by omega)]; omega, by rw [IntWalk.wrap64_in _ (by omega)]; omega⟩
         have HTWs := Lib.hid HTW.out.bl
         have HTWr := Lib.hid (HTW.out.below HBL.out)
         have HK7 := Lib.hid (HK6.out.below HBL.out)
         clear HTW huu
         have HTW := HTWr
         have y1 := HK7.out.cell 1
         have hz5 := HK7.out.lt
         simp only [List.getElem?_cons_zero, List.getElem?_cons_succ] at y1
         go_wp2_with fail
         clear hsub hsub2
         refine (HB1.out _ HBL.out).mono ?_
         rintro e w7 ⟨rfl, hb7⟩
         have HB7 := Lib.hid (bl_then HBL.out hb7)
         clear hb7 hcj y1 hz5
         go_wp2_with fail
         refine (HAW.out _).mono ?_
         rintro e w8 ⟨rfl, hb8⟩
         have HB8 := Lib.hid (bl_then HTWs.out (bl_then HB7.out hb8))
         clear hb8
         go_wp2_with fail
         go_ret
         exact ⟨rfl, HB8.out⟩
   · have hr0 : (r == 0) = false := by simp [hr]
     go_wp2_with fail
     clear y0 y1 y2 hz5 hz0 hz1
     refine (HAW.out _).mono ?_
     rintro e w9 ⟨rfl, hb9⟩
     have HB9 := Lib.hid (bl_then HTW.out.bl hb9)
     clear hb9
     clear kt0 kt1 kt2 kt3 kt4 kt5 kt6 kt7 kt8 kt9 kt10 kt11 kt12 kt13 kt14
     clear b0 b1 b2 b3 b4 b5 b6 b7 b8 b9 bA bB bC
     clear HTWt HTWw
     go_wp2_with fail
     go_ret
     exact ⟨rfl, HB9.out⟩
end Go.Proofs.YtjggklfegcejhaaGreat
