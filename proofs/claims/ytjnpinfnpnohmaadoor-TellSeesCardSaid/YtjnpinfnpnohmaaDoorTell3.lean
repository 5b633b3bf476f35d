/- tell.listed, tell.List. -/
import Derived.Test.YtjnpinfnpnohmaaDoorTell2
namespace Go.Proofs.YtjnpinfnpnohmaaDoor
open Go.RowKit Go.PlainAid Go.Shelf
set_option linter.unusedVariables false
set_option linter.unusedSimpArgs false

/-- The titles of those that are listed. -/
def titlesL (t : TbC) (fl : List Int) (l : List Int) : List TxC := (l.filter (showsL fl)).map (titleT t)
theorem titles_take {t : TbC} {fl l : List Int} {i : Nat} (h : i < l.length) : titlesL t fl (l.take (i + 1)) = titlesL t fl (l.take i) ++ (if showsL fl l[i] = true then [titleT t l[i]] else []) := by
  unfold titlesL
  rw [List.take_succ_eq_append_getElem h, List.filter_append, List.map_append]
  congr 1
  by_cases hs : showsL fl l[i] = true
  · simp [hs]
  · simp [hs]
theorem titles_len {t : TbC} {fl l : List Int} : (titlesL t fl l).length ≤ l.length := by unfold titlesL; rw [List.length_map]; exact List.length_filter_le _ _
/-- A list of texts of one's own. -/
def OwnStrs (B : Nat) (w' : World) (v : Value) (l : List TxC) : Prop := w'.ownsRow B 9 1 v l.length (l.map mkS)
/-- What holds between two rounds of listed. -/
structure LRd (x : TAd) (t : TbC) (q : Wv) (d : WdC) (n s : Nat) (w : World) (a : Option Addr) (L : List Int) (i : Nat) (wr : World) : Prop where
  st : ∃ v, LSt x t q s wr v (titlesL t d.fl (L.take i))
  bl : Below s w wr
  r : RowSafe (s + 2) wr a L
set_option maxRecDepth 100000 in
set_option maxHeartbeats 8000000 in
theorem listedC (x : TAd) (t : TbC) (q : Wv) (d : WdC) (n : Nat) (y : Int) (w : World) (ht : TabIs w x t) (hW : WOk w q d n) :
    Calls Tryd.prog 42 #[tabV x t, worldV q, .int .i64 y] w fun e w' => ∃ v, e = .returned v ∧ OwnStrs w.heap.size w' v (titlesL t d.fl (kidsW d.ch d.nx n y)) ∧ Below w.heap.size w w' := by
  obtain ⟨W0, hW0⟩ : ∃ W0, ((w.alloc (.cells (tabC x t).toArray 28)).alloc (.cells (worldC q).toArray 34)).alloc (.cells #[.slice none 0 0] 22) = W0 := ⟨_, rfl⟩
  have hb0 : Below w.heap.size w W0 := by rw [← hW0]; exact bl_a (bl_a (bl_a (Below.refl _ _) _) _) _
  have z1 : (w.alloc (.cells (tabC x t).toArray 28)).heap.size = w.heap.size + 1 := World.size_alloc _ _
  have z2 : ((w.alloc (.cells (tabC x t).toArray 28)).alloc (.cells (worldC q).toArray 34)).heap.size = w.heap.size + 2 := by rw [World.size_alloc, z1]
  have hbt : BK W0 w.heap.size (tabC x t) 28 := by rw [← hW0]; exact ((BK.new w (tabC x t) 28).alloc _).alloc _
  have hbw : BK W0 (w.heap.size + 1) (worldC q) 34 := by
    rw [← hW0]
    have := BK.new (w.alloc (.cells (tabC x t).toArray 28)) (worldC q) 34
    rw [z1] at this
    exact this.alloc _
  have hbo : Boxed W0 (w.heap.size + 2) 22 (.slice none 0 0) := by
    rw [← hW0]
    have := Boxed.new ((w.alloc (.cells (tabC x t).toArray 28)).alloc (.cells (worldC q).toArray 34)) 22 (.slice none 0 0)
    rwa [z2] at this
  have hst : LSt x t q w.heap.size W0 (.slice none 0 0) [] := ⟨hbt, hbw, hbo, World.ownsRow_nil _ _ _ _⟩
  have HKID := Lib.hid (childrenC q d y n W0 (hW.below hb0).is hW.len hW.pos (by have := hW.few; omega))
  have HAN := Lib.hid (fun y ls v W (hb : Below w.heap.size w W) hy h hs => addNo x t q d n w.heap.size y ls v W (hW.below hb) hy h hs)
  have HAY := Lib.hid (fun y ls v W (hb : Below w.heap.size w W) hy h hs hl => addYes x t q d n w.heap.size y ls v W (ht.below hb) (hW.below hb) hy h hs hl)
  have hlen := kids_len d.ch d.nx n y
  have hfew := hW.few
  have HIS := Lib.hid (fun c (h : c ∈ kidsW d.ch d.nx n y) => kids_is h)
  have HST := Lib.hid hst
  have HB0 := Lib.hid hb0
  generalize kidsW d.ch d.nx n y = L at *
  clear ht hW z1 z2 hbt hbo hb0 hst
  have HBW := Lib.hid hbw
  clear hbw
  have b0 := HBW.out.cell 0
  have b1 := HBW.out.cell 1
  have b2 := HBW.out.cell 2
  have b3 := HBW.out.cell 3
  have b4 := HBW.out.cell 4
  have b5 := HBW.out.cell 5
  have b6 := HBW.out.cell 6
  have b7 := HBW.out.cell 7
  have b8 := HBW.out.cell 8
  have b9 := HBW.out.cell 9
  have bA := HBW.out.cell 10
  have bB := HBW.out.cell 11
  have bC := HBW.out.cell 12
  simp only [worldC, List.getElem?_cons_zero, List.getElem?_cons_succ] at b0 b1 b2 b3 b4 b5 b6 b7 b8 b9 bA bB bC
  have hbo := HST.out.bo.cell
  unfold worldV tabV at *
  go_enter Tryd.func42, Tryd.ntmps42
  unfold worldC at HKID hW0 ⊢
  unfold tabC at hW0 ⊢
  go_wp2_with fail
  clear hW0
  refine HKID.out.mono ?_
  rintro e w1 ⟨v, rfl, how, hb1⟩
  obtain ⟨a, c, rfl⟩ := how.shape
  have HB1 := Lib.hid (HB0.out.trans (hb1.mono HB0.out.size))
  have hst1 : LSt x t q w.heap.size w1 (.slice none 0 0) [] := ⟨HST.out.bt.below hb1, HST.out.bw.below hb1, HST.out.bo.kept (gr_below hb1 (r := none)) (by simp), World.ownsRow_nil _ _ _ _⟩
  have HRD : Hid (LRd x t q d n w.heap.size w a L 0 w1) := Lib.hid ⟨⟨_, by simpa [titlesL] using hst1⟩, HB1.out, RowSafe.of how ⟨HST.out.bo.lt, fun g hg => by
    rw [boxed_ptr HST.out.bo] at hg; cases hg⟩ hb1⟩
  clear how hb1 hst1 hbo
  clear b0 b1 b2 b3 b4 b5 b6 b7 b8 b9 bA bB bC
  go_wp2_with fail
  go_loopw [16] (fun iv wr => ∃ (i : Nat), iv = .int .i64 i ∧ i ≤ L.length ∧ Hid (LRd x t q d n w.heap.size w a L i wr)) (fun iv _ => L.length - (intOf iv).toNat)
  case atStart => exact ⟨0, rfl, Nat.zero_le _, HRD⟩
  case round =>
    obtain ⟨i, rfl, hil, HR⟩ := hrel
    by_cases hlt : i < L.length
    · have hi63 : (i : Int) < 1000000 := by omega
      obtain ⟨g, ha, hsg, hcg⟩ := HR.out.r (by omega)
      have hcl := hcg i hlt
      subst ha
      obtain ⟨v, hst⟩ := HR.out.st
      have HS := Lib.hid hst
      have HTK := Lib.hid (titles_take (t := t) (fl := d.fl) hlt)
      have HM := Lib.hid (HIS.out L[i] (List.getElem_mem hlt))
      have HTL := Lib.hid (Nat.le_trans (titles_len (t := t) (fl := d.fl) (l := L.take i)) (by rw [List.length_take]; omega) : (titlesL t d.fl (L.take i)).length ≤ 1000)
      generalize L[i] = c' at hcl HTK HM
      clear hsg hcg hst
      cases hs : showsL d.fl c' with
      | false =>
        have HC := Lib.hid (HAN.out c' _ v wr HR.out.bl HM.out HS.out hs)
        go_wp2_with (go_at_call 80; refine HC.out.mono ?_; rintro e w2 ⟨rfl, rfl⟩)
        go_roundw
        case rel => exact ⟨i + 1, by go_num, by omega, Lib.hid ⟨⟨v, by rw [HTK.out, if_neg (by rw [hs]; decide), List.append_nil]; exact HS.out⟩, HR.out.bl, HR.out.r⟩⟩
        case measure => simp [intOf]; omega
      | true =>
        have HC := Lib.hid (HAY.out c' _ v wr HR.out.bl HM.out HS.out hs HTL.out)
        go_wp2_with (go_at_call 80; refine HC.out.mono ?_; rintro e w2 ⟨rfl, v2, hst2, hk2, hb2⟩; have HS2 := Lib.hid hst2; have HK2 := Lib.hid hk2; have HB2 := Lib.hid hb2; clear hst2 hk2 hb2)
        go_roundw
        case rel => exact ⟨i + 1, by go_num, by omega, Lib.hid ⟨⟨v2, by rw [HTK.out, if_pos hs]; exact HS2.out⟩, HR.out.bl.trans (HB2.out.mono (by omega)), HR.out.r.step HK2.out⟩⟩
        case measure => simp [intOf]; omega
    · obtain ⟨v, hst⟩ := HR.out.st
      have hbo2 : wr.cell? ⟨w.heap.size + 1 + 1, 0, none⟩ = some v := hst.bo.cell
      obtain ⟨va, vc, hv⟩ := ow_shape hst.row
      subst hv
      have HS := Lib.hid hst
      have HTE : Hid (L.take i = L) := Lib.hid (List.take_of_length_le (by omega))
      clear hst
      go_wp2_with fail
      go_ret
      refine ⟨_, rfl, ?_, HR.out.bl⟩
      have h := ow_base HS.out.row (b' := w.heap.size) (by omega)
      show OwnStrs _ _ (.slice va (titlesL t d.fl (L.take i)).length vc) _
      unfold OwnStrs
      rw [HTE.out] at h ⊢
      exact h
def anL : TxC := [32, 97, 110, 100, 32]
def coL : TxC := [44, 32]
/-- A row of titles. -/
def rowT (ls : List TxC) : TxC := match ls with
  | [] => nothingL
  | a :: t => a ++ tailP anL coL t
theorem ba_app (a b : TxC) : (⟨a.toArray⟩ : ByteArray) ++ (⟨b.toArray⟩ : ByteArray) = ⟨(a ++ b).toArray⟩ := by
  apply ByteArray.ext
  show (_ ++ _ : ByteArray).data = _
  rw [ByteArray.data_append]; simp
theorem title_le {t : TbC} (h : ∀ s ∈ t.tx, s.length ≤ 1024) (x : Int) : (titleT t x).length ≤ 1024 := by
  have ht : ∀ i, (textT t i).length ≤ 1024 := fun i => by
    unfold textT
    split
    · rw [List.getD_eq_getElem?_getD]
      cases hc : t.tx[i.toNat]? with
      | none => simp
      | some s => exact h s (List.mem_of_getElem? hc)
    · simp
  unfold titleT
  split
  · split
    · exact ht _
    · decide
  · decide
theorem titles_le {t : TbC} {fl l : List Int} (h : ∀ s ∈ t.tx, s.length ≤ 1024) : ∀ s ∈ titlesL t fl l, s.length ≤ 1024 := by
  intro s hs
  unfold titlesL at hs
  obtain ⟨x, _, rfl⟩ := List.mem_map.1 hs
  exact title_le h x
theorem own_str {B : Nat} {w : World} {a : Option Addr} {c : Nat} {l : List TxC} (h : OwnStrs B w (.slice a l.length c) l) (hn : 0 < l.length) : ∃ g, a = some ⟨g, 0, none⟩ ∧ ∀ i (hi : i < l.length), w.cell? ⟨g, i, none⟩ = some (.string ⟨l[i].toArray⟩) := by
  obtain ⟨g, cap, e, hg, hlt⟩ := h.form hn
  simp at e
  obtain ⟨rfl, rfl⟩ := e
  refine ⟨g, rfl, fun i hi => ?_⟩
  rw [World.ownsRow.cellAt h i (by omega)]; simp [hi]; rfl
theorem len_step {acc s an : TxC} {i : Nat} (h : acc.length ≤ (i + 1) * 1100) (hs : s.length ≤ 1024) (ha : an.length ≤ 5) : (acc ++ (an ++ s)).length ≤ (i + 1 + 1) * 1100 := by
  rw [List.length_append, List.length_append]; omega
set_option maxRecDepth 100000 in
set_option maxHeartbeats 8000000 in
theorem listC (x : TAd) (t : TbC) (q : Wv) (d : WdC) (n : Nat) (y : Int) (w : World) (ht : TabIs w x t) (hW : WOk w q d n) (hT : ∀ s ∈ t.tx, s.length ≤ 1024) :
    Calls Tryd.prog 15 #[tabV x t, worldV q, .int .i64 y] w fun e w' => e = .returned (mkS (rowT (titlesL t d.fl (kidsW d.ch d.nx n y)))) ∧ Below w.heap.size w w' := by
  have hb0 : Below w.heap.size w ((w.alloc (.cells (tabC x t).toArray 28)).alloc (.cells (worldC q).toArray 34)) := bl_a (bl_a (Below.refl _ _) _) _
  have HL := Lib.hid (listedC x t q d n y _ (ht.below hb0) (hW.below hb0))
  have hls := titles_le (t := t) (fl := d.fl) (l := kidsW d.ch d.nx n y) hT
  have hlen := Nat.le_trans (titles_len (t := t) (fl := d.fl) (l := kidsW d.ch d.nx n y)) (Nat.le_trans (kids_len d.ch d.nx n y) hW.few)
  generalize titlesL t d.fl (kidsW d.ch d.nx n y) = ls at *
  have HB0 := Lib.hid hb0
  have HLS := Lib.hid hls
  clear ht hW hT hls hb0
  unfold worldV tabV mkS at *
  go_enter Tryd.func15, Tryd.ntmps15
  unfold worldC tabC at HL HB0 ⊢
  go_wp2_with fail
  refine HL.out.mono ?_
  rintro e w1 ⟨v, rfl, how, hb1⟩
  obtain ⟨a, c, rfl⟩ := ow_shape how
  have HOW := Lib.hid how
  have HB1 := Lib.hid (HB0.out.trans (hb1.mono HB0.out.size))
  clear how hb1 HL HB0
  cases ls with
  | nil =>
    go_wp2
    go_ret
    exact ⟨rfl, HB1.out⟩
  | cons s0 rest =>
    obtain ⟨g, ha, hc⟩ := own_str HOW.out (by simp)
    subst ha
    have hc0 := hc 0 (by simp)
    simp only [List.getElem_cons_zero] at hc0
    have HC := Lib.hid hc
    have hz0 := HLS.out s0 (by simp)
    obtain ⟨m, hm⟩ : ∃ m, rest.length = m := ⟨_, rfl⟩
    have hlm : (s0 :: rest).length = m + 1 := by simp [hm]
    rw [hlm] at hlen HOW ⊢
    clear hc
    have HM := Lib.hid hm
    have HTS := Lib.hid (fun i (h : i < rest.length) => by
      have := tail_step anL coL rest[i] (rest.drop (i + 1))
      rw [← List.drop_eq_getElem_cons h] at this
      exact this)
    clear hm hlm
    have hm1 : (m : Int) + 1 ≤ 1000 := by omega
    have hm0 : ((m : Int) + 1 == 0) = false := by simp; omega
    go_wp2_with fail
    go_loop [8, 24] (fun ov iv => ∃ (i : Nat) (acc : TxC), ov = .string ⟨acc.toArray⟩ ∧ iv = .int .i64 i ∧ i ≤ m ∧ acc.length ≤ (i + 1) * 1100 ∧ Hid (acc ++ tailP anL coL (rest.drop i) = s0 ++ tailP anL coL rest)) (fun _ iv => m - (intOf iv).toNat)
    case atStart => exact ⟨0, s0, rfl, rfl, Nat.zero_le _, by omega, Lib.hid rfl⟩
    case round =>
      obtain ⟨i, acc, rfl, rfl, hil, hal, HE⟩ := hrel
      have hsz : (⟨acc.toArray⟩ : ByteArray).size ≤ 1100000 := by
        show acc.toArray.size ≤ _
        have : (i + 1) * 1100 ≤ 1000 * 1100 := Nat.mul_le_mul_right _ (by omega)
        simp; omega
      by_cases hlt : i < m
      · have hir : i < rest.length := by rw [HM.out]; exact hlt
        have hci := HC.out (i + 1) (by simp; omega)
        simp only [List.getElem_cons_succ] at hci
        have hzi := HLS.out rest[i] (by simp)
        have hts := HTS.out i hir
        have HD : Hid (rest.drop (i + 1) = [] ↔ i + 1 = m) := Lib.hid (by
          rw [List.drop_eq_nil_iff, HM.out]; omega)
        generalize rest[i] = s at *
        have HTT := Lib.hid hts
        clear hts hir
        have hzs : (⟨s.toArray⟩ : ByteArray).size ≤ 1024 := by show s.toArray.size ≤ _; simpa using hzi
        by_cases hsep : i + 1 = m
        · have hq : ((i : Int) == (m : Int) + 1 - 2) = true := by simp; omega
          have hq2 : ((i : Int) == (m : Int) - 1) = true := by simp; omega
          have HSE := Lib.hid hsep
          clear hsep
          go_wp2
          go_round
          case rel => exact ⟨i + 1, acc ++ (anL ++ s), by rw [show (⟨#[32, 97, 110, 100, 32]⟩ : ByteArray) = ⟨(anL : TxC).toArray⟩ from rfl, ba_app, ba_app], by go_num, by omega, len_step hal hzi (by decide), Lib.hid (by rw [← HE.out, HTT.out, if_pos (HD.out.2 HSE.out)]; simp)⟩
          case measure => simp [intOf]; omega
        · have hq : ((i : Int) == (m : Int) + 1 - 2) = false := by simp; omega
          have hq2 : ((i : Int) == (m : Int) - 1) = false := by simp; omega
          have HSE := Lib.hid hsep
          clear hsep
          go_wp2
          go_round
          case rel => exact ⟨i + 1, acc ++ (coL ++ s), by rw [show (⟨#[44, 32]⟩ : ByteArray) = ⟨(coL : TxC).toArray⟩ from rfl, ba_app, ba_app], by go_num, by omega, len_step hal hzi (by decide), Lib.hid (by rw [← HE.out, HTT.out, if_neg (fun h => HSE.out (HD.out.1 h))]; simp)⟩
          case measure => simp [intOf]; omega
      · go_wp2
        go_ret
        have hd : rest.drop i = [] := List.drop_eq_nil_iff.2 (by rw [HM.out]; omega)
        have he := HE.out
        rw [hd, tailP, List.append_nil] at he
        exact ⟨by show Ending.returned (.string ⟨acc.toArray⟩) = .returned (.string ⟨(s0 ++ tailP anL coL rest).toArray⟩); rw [he], HB1.out⟩
end Go.Proofs.YtjnpinfnpnohmaaDoor
