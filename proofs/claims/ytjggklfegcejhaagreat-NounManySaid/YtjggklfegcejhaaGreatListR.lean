/- Contract of clewref36.list. -/
import Derived.Test.YtjggklfegcejhaaGreatItemC
import Derived.Test.YtjggklfegcejhaaGreatLawAM
import Derived.Deep.DeepCutAuto
namespace Go.Proofs.YtjggklfegcejhaaGreat
open Go.RowKit Go.PlainAid
set_option linter.unusedVariables false
set_option linter.unusedSimpArgs false

/-- What comes of a list of which so many words are read. -/
def nextN (one : List TxC → Int × Nat × Int) (ks : List TxC) (f u : Nat) (l : List Int) : PhC := if u + 1 < ks.length ∧ andL.contains (ks.getD u []) = true then listN one ks f (u + 1) l else ⟨l, u, 0⟩
theorem list_start (one : List TxC → Int × Nat × Int) (ks : List TxC) (f : Nat) : listN one ks (f + 1) 0 [] = if (itemN (one ks)).er = 0 then nextN one ks f (itemN (one ks)).us (itemN (one ks)).th else itemN (one ks) := by
 obtain ⟨⟨x, u, e⟩, hr⟩ : ∃ r, one ks = r := ⟨_, rfl⟩
 unfold listN
 simp only [List.drop_zero, hr, Nat.zero_add]
 by_cases he : e = 0
 · subst he; rfl
 · have e1 : itemN (x, u, e) = ⟨[], u, e⟩ := by unfold itemN; simp [he]
   rw [e1, if_neg he, if_neg he]
theorem next_go {one : List TxC → Int × Nat × Int} {ks : List TxC} {f u : Nat} {l : List Int} (h : u + 1 < ks.length ∧ andL.contains (ks.getD u []) = true) :
    nextN one ks (f + 1) u l = if (itemN (one (ks.drop (u + 1)))).er = 0 then nextN one ks f (u + 1 + (itemN (one (ks.drop (u + 1)))).us) ((itemN (one (ks.drop (u + 1)))).th.foldl addN l) else ⟨[], u + 1 + (itemN (one (ks.drop (u + 1)))).us, (itemN (one (ks.drop (u + 1)))).er⟩ := by
 obtain ⟨⟨x, v, e⟩, hr⟩ : ∃ r, one (ks.drop (u + 1)) = r := ⟨_, rfl⟩
 have e2 : listN one ks (f + 1) (u + 1) l = (if e = 0 then nextN one ks f (u + 1 + v) (addN l x) else ⟨[], u + 1 + v, e⟩) := by
  rw [listN]; simp only [hr]; rfl
 rw [show nextN one ks (f + 1) u l = listN one ks (f + 1) (u + 1) l from by unfold nextN; rw [if_pos h], e2, hr]
 by_cases he : e = 0
 · subst he
   rw [show itemN (x, v, 0) = ⟨[x], v, 0⟩ from rfl]
   simp only [if_true, List.foldl]
 · have e1 : itemN (x, v, e) = ⟨[], v, e⟩ := by unfold itemN; simp [he]
   rw [e1, if_neg he, if_neg he]
theorem next_no {one : List TxC → Int × Nat × Int} {ks : List TxC} {f u : Nat} {l : List Int} (h : ¬ (u + 1 < ks.length ∧ andL.contains (ks.getD u []) = true)) : nextN one ks f u l = ⟨l, u, 0⟩ := by unfold nextN; rw [if_neg h]
theorem item_form {r : Int × Nat × Int} {l : List Int} {u : Nat} {e : Int} (h : itemN r = ⟨l, u, e⟩) : (e = 0 ∧ ∃ x, l = [x]) ∨ (e ≠ 0 ∧ l = []) := by
 unfold itemN at h
 split at h
 · rename_i he
   simp only [PhC.mk.injEq] at h
   exact .inl ⟨h.2.2.symm, _, h.1.symm⟩
 · rename_i he
   simp only [PhC.mk.injEq] at h
   exact .inr ⟨by rw [← h.2.2]; exact he, h.1.symm⟩
theorem item_us (r : Int × Nat × Int) : (itemN r).us = r.2.1 := by unfold itemN; split <;> rfl
/-- The boxes, the result, and a phrase that grows in a block of its own. -/
structure LsR (x : TAd) (t : TbC) (q : Wv) (w wr : World) (pb : Nat) (va : Option Addr) (vc : Nat) (l : List Int) (u : Nat) (r : Int) : Prop where
 bt : BK wr w.heap.size (tabC x t) 28
 bw : BK wr (w.heap.size + 1) (worldC q) 31
 br : BK wr (w.heap.size + 2) [.slice none 0 0, .int .i64 0, .int .i64 0] 36
 bp : BK wr pb [.slice va l.length vc, .int .i64 u, .int .i64 r] 36
 row : OwnInts (w.heap.size + 3) wr (.slice va l.length vc) l
 ne : ∀ b, (Value.slice va l.length vc).ownBlock = some b → b ≠ pb
 lo : w.heap.size + 3 ≤ pb
 bl : Below w.heap.size w wr
theorem LsR.below {x : TAd} {t : TbC} {q : Wv} {w wr w' : World} {pb : Nat} {va : Option Addr} {vc : Nat} {l : List Int} {u : Nat} {r : Int} (h : LsR x t q w wr pb va vc l u r) (hb : Below wr.heap.size wr w') : LsR x t q w w' pb va vc l u r :=
 ⟨h.bt.below hb, h.bw.below hb, h.br.below hb, h.bp.below hb, h.row.below hb, h.ne, h.lo, bl_then h.bl hb⟩
/-- Another number of words. -/
theorem LsR.use {x : TAd} {t : TbC} {q : Wv} {w wr : World} {pb : Nat} {va : Option Addr} {vc : Nat} {l : List Int} {u : Nat} {r : Int} (h : LsR x t q w wr pb va vc l u r) (u2 : Nat) : LsR x t q w (wr.setCell ⟨pb, 1, none⟩ (.int .i64 u2)) pb va vc l u2 r := by
 have := h.lo
 refine ⟨h.bt.setO (by omega) _ _, h.bw.setO (by omega) _ _, h.br.setO (by omega) _ _, ?_, ⟨?_, h.row.2⟩, h.ne, h.lo, bl_s h.bl _ _ (by omega)⟩
 · have := h.bp.set 1 (.int .i64 u2)
   simpa only [List.set_cons_zero, List.set_cons_succ] using this
 · refine h.row.1.kept (gr_set wr pb 1 (.int .i64 u2)) ?_
   cases hv : (Value.slice va l.length vc).ownBlock with
   | none => exact .inl rfl
   | some b => exact .inr (fun e => h.ne b hv (Option.some.inj e))
/-- One thing more: the row has grown, the phrase's cell is not yet written. -/
theorem LsR.mid {x : TAd} {t : TbC} {q : Wv} {w wr w3 : World} {pb : Nat} {va : Option Addr} {vc : Nat} {l : List Int} {u : Nat} {r : Int} (h : LsR x t q w wr pb va vc l u r)
    (hg : wr.grownBy w3 (Value.slice va l.length vc).ownBlock) : BK w3 pb [.slice va l.length vc, .int .i64 u, .int .i64 r] 36 := h.bp.kept hg (fun j hj => h.ne j hj)
theorem LsR.add {x : TAd} {t : TbC} {q : Wv} {w wr w3 : World} {pb : Nat} {va : Option Addr} {vc : Nat} {l : List Int} {u : Nat} {r : Int} {g3 cap3 : Nat} {c : Int} (h : LsR x t q w wr pb va vc l u r)
    (hg : wr.grownBy w3 (Value.slice va l.length vc).ownBlock) (hown : w3.ownsRow (w.heap.size + 3) 3 1 (.slice (some ⟨g3, 0, none⟩) (l.length + 1) cap3) (l.length + 1) (l.map (Value.int .i64) ++ [.int .i64 c])) (hat : (Value.slice va l.length vc).ownBlock = some g3 ∨ g3 = wr.heap.size) :
    LsR x t q w (w3.setCell ⟨pb, 0, none⟩ (.slice (some ⟨g3, 0, none⟩) (l.length + 1) cap3)) pb (some ⟨g3, 0, none⟩) cap3 (l ++ [c]) u r := by
 have hlo : ∀ j, (Value.slice va l.length vc).ownBlock = some j → w.heap.size + 3 ≤ j := fun j hj => ow_lo h.row.1 j hj
 have h0 := h.lo
 have hlt := h.bp.lt
 have hgp : g3 ≠ pb := by
  rcases hat with e | e
  · exact h.ne g3 e
  · omega
 have hb := bl_g h.bl hg (fun j hj => by have := hlo j hj; omega)
 refine ⟨(h.bt.kept hg (fun j hj => by have := hlo j hj; omega)).setO (by omega) _ _, (h.bw.kept hg (fun j hj => by have := hlo j hj; omega)).setO (by omega) _ _, (h.br.kept hg (fun j hj => by have := hlo j hj; omega)).setO (by omega) _ _, ?_, ⟨?_, fun e => by simp at e⟩, ?_, h0, bl_s hb _ _ (by omega)⟩
 · have := (h.mid hg).set 0 (.slice (some ⟨g3, 0, none⟩) (l.length + 1) cap3)
   rw [List.length_append]
   simp only [List.length_cons, List.length_nil, Nat.zero_add]
   simpa only [List.set_cons_zero, List.set_cons_succ] using this
 · have := hown.kept (gr_set w3 pb 0 (.slice (some ⟨g3, 0, none⟩) (l.length + 1) cap3)) (.inr (fun e => hgp (Option.some.inj e)))
   rw [List.length_append]
   simpa using this
 · intro b hb2
   have : g3 = b := Option.some.inj hb2
   rw [← this]; exact hgp
theorem LsR.size {x : TAd} {t : TbC} {q : Wv} {w wr : World} {pb : Nat} {va : Option Addr} {vc : Nat} {l : List Int} {u : Nat} {r : Int} (h : LsR x t q w wr pb va vc l u r) : ∀ b, (Value.slice va l.length vc).ownBlock = some b → b < wr.heap.size := fun b e => (h.row.1.lt b e).2
set_option maxRecDepth 100000 in
set_option maxHeartbeats 16000000 in
theorem refList (x : TAd) (t : TbC) (q : Wv) (d : WdC) (a : Option Addr) (ws : List TxC) (c : Nat) (w : World) (ht : TabIs w x t) (hW : WOk w q d t.th.length) (hd : ∀ x, (kidsW d.ch d.nx t.th.length x).Nodup) (hky : KeyOk t) (h2 : 2 ≤ t.th.length)
    (hw : Wds w a ws) (hc : ws.length ≤ c) (hwl : ws.length ≤ 1000) :
    Calls Tryz.prog 34 #[tabV x t, worldV q, .slice a ws.length c] w (RetPhO w (listN (oneW t q d) (ws.map keyW) (ws.length + 1) 0 [])) := by
 have hnew := Thr.new x t q w [.slice none 0 0, .int .i64 0, .int .i64 0]
 obtain ⟨W0, hW0⟩ : ∃ W0, ((w.alloc (.cells (tabC x t).toArray 28)).alloc (.cells (worldC q).toArray 31)).alloc (.cells ([.slice none 0 0, .int .i64 0, .int .i64 0] : List Value).toArray 36) = W0 := ⟨_, rfl⟩
 rw [hW0] at hnew
 have HST := Lib.hid hnew
 have HIT := Lib.hid (fun a' ws' c' w' (hb : Below w.heap.size w w') hw' hc' hwl' => refItem x t q d a' ws' c' w' (ht.below hb) (hW.below hb) hd hky h2 hw' hc' hwl')
 have HUS : Hid (∀ ks, (oneW t q d ks).2.1 ≤ ks.length) := Lib.hid (fun ks => one_used t (seenTo (seesN d t.th.length) t.th.length) (isW t.th.length q.it && seesN d t.th.length q.it) q.it ks)
 have HHAS := Lib.hid (fun s a (l : List TxC) c w' hw hl hs => refHas36 s a l c w' hw hl hs)
 have HWD := Lib.hid (fun w' (hb : Below w.heap.size w w') => hw.below hb)
 have HWL := Lib.hid hw.1
 obtain ⟨i0, hi, hi1, hi2, hi3⟩ := info_parts info_intV
 generalize oneW t q d = one at *
 have HLSTA : Hid (listN one (ws.map keyW) (ws.length + 1) 0 [] = if (itemN (one (ws.map keyW))).er = 0 then nextN one (ws.map keyW) ws.length (itemN (one (ws.map keyW))).us (itemN (one (ws.map keyW))).th else itemN (one (ws.map keyW))) := Lib.hid (list_start one (ws.map keyW) ws.length)
 obtain ⟨PH, hPH⟩ : ∃ p, listN one (ws.map keyW) (ws.length + 1) 0 [] = p := ⟨_, rfl⟩
 rw [hPH] at HLSTA ⊢
 clear ht hW hw hnew hPH hd hky
 obtain ⟨m, hm⟩ : ∃ m, ws.length = m := ⟨_, rfl⟩
 have HWM := Lib.hid hm
 have HI0 := Lib.hid (fun w' (hb : Below w.heap.size w w') => HIT.out a ws c w' hb (HWD.out w' hb) hc hwl)
 rw [hm] at hc hwl HLSTA HI0 ⊢
 clear hm
 have HFO := Lib.hid (fun l u e => item_form (r := one (ws.map keyW)) (l := l) (u := u) (e := e))
 have HUS0 : Hid ((itemN (one (ws.map keyW))).us ≤ m) := Lib.hid (by rw [item_us]; have := HUS.out (ws.map keyW); rw [List.length_map, HWM.out] at this; exact this)
 generalize itemN (one (ws.map keyW)) = p1 at *
 obtain ⟨l1, u1, r1⟩ := p1
 have HFO1 := Lib.hid (HFO.out l1 u1 r1 rfl)
 dsimp only at HLSTA HUS0
 clear HFO
 have HSTt := Lib.hid HST.out.bt
 have HSTw := Lib.hid HST.out.bw
 obtain ⟨kt0, kt1, kt2, kt3, kt4, kt5, kt6, kt7, kt8, kt9, kt10, kt11, kt12, kt13, kt14⟩ := tab15 (HSTt.out)
 obtain ⟨b0, b1, b2, b3, b4, b5, b6, b7, b8, b9, bA, bB, bC⟩ := wd13 (HSTw.out)
 unfold tabV worldV at *
 go_enter Tryz.func34, Tryz.ntmps34
 unfold worldC at HIT HI0 hW0 ⊢
 unfold tabC at HIT HI0 hW0 ⊢
 go_wp2_with fail
 clear hW0
 refine (HI0.out _ HST.out.bl).mono ?_
 rintro e w1 ⟨pa, pc, rfl, hrow, hb1⟩
 dsimp only at hrow ⊢
 have HLS0 : Hid (LsR x t q w (w1.alloc (.cells #[.slice pa l1.length pc, .int .i64 u1, .int .i64 r1] 36)) w1.heap.size pa pc l1 u1 r1) := Lib.hid (by
  have h1 := HST.out.below hb1
  have h3 := hrow.below (bl_a (Below.refl _ _) (.cells #[.slice pa l1.length pc, .int .i64 u1, .int .i64 r1] 36))
  have hlt := HST.out.br.lt
  have hsz := hb1.size
  refine ⟨h1.bt.alloc _, h1.bw.alloc _, h1.br.alloc _, BK.new w1 [.slice pa l1.length pc, .int .i64 u1, .int .i64 r1] _, h3.base (by omega), fun b e => ?_, by omega, bl_a h1.bl _⟩
  have := (hrow.1.lt b e).2
  omega)
 clear kt0 kt1 kt2 kt3 kt4 kt5 kt6 kt7 kt8 kt9 kt10 kt11 kt12 kt13 kt14
 clear b0 b1 b2 b3 b4 b5 b6 b7 b8 b9 bA bB bC
 clear HSTt HSTw HST hrow hb1 HI0
 have hl1 : l1.length ≤ 1 := by
  rcases HFO1.out with ⟨_, x0, hx⟩ | ⟨_, hx⟩
  · rw [hx]; exact Nat.le_refl _
  · rw [hx]; exact Nat.zero_le _
 go_wp2_with fail
 generalize w1.alloc (.cells #[.slice pa l1.length pc, .int .i64 u1, .int .i64 r1] 36) = W2 at HLS0 ⊢
 generalize w1.heap.size = pb at HLS0 ⊢
 have HLO : Hid (w.heap.size + 3 ≤ pb) := Lib.hid HLS0.out.lo
 have hpb := HLO.out
 have HOM0 : Hid (w.heap.size + 1 + 1 < w.heap.size + 3 ∧ w.heap.size ≤ w.heap.size + 3) := Lib.hid ⟨by omega, by omega⟩
 go_loopw [] (fun wr => ∃ (f u : Nat) (r : Int) (l : List Int) (va : Option Addr) (vc : Nat), u ≤ m ∧ m ≤ f + u ∧ l.length ≤ u + 1 ∧ Hid (LsR x t q w wr pb va vc l u r) ∧ Hid (PH = if r = 0 then nextN one (ws.map keyW) f u l else ⟨l, u, r⟩)) (fun wr => m - (intOf ((wr.cell? ⟨pb, 1, none⟩).getD default)).toNat)
 case atStart => exact ⟨m, u1, r1, l1, pa, pc, HUS0.out, by omega, by omega, HLS0, HLSTA⟩
 case round =>
  clear HLS0 HLSTA HFO1 hl1
  obtain ⟨f, u, r, l, va, vc, hum, hfu, hlu, HLS, HX⟩ := hrel
  have hzp : pb < wr.heap.size := HLS.out.bp.lt
  have HLSt := Lib.hid HLS.out.bt
  have HLSw := Lib.hid HLS.out.bw
  obtain ⟨kt0, kt1, kt2, kt3, kt4, kt5, kt6, kt7, kt8, kt9, kt10, kt11, kt12, kt13, kt14⟩ := tab15 (HLSt.out)
  obtain ⟨b0, b1, b2, b3, b4, b5, b6, b7, b8, b9, bA, bB, bC⟩ := wd13 (HLSw.out)
  have HLSp := Lib.hid HLS.out.bp
  have p0 := HLSp.out.cell 0
  have p1 := HLSp.out.cell 1
  have p2 := HLSp.out.cell 2
  have g0 := HLSp.out.fr 0
  have g1 := HLSp.out.fr 1
  have g2 := HLSp.out.fr 2
  simp only [List.getElem?_cons_zero, List.getElem?_cons_succ] at p0 p1 p2
  by_cases hr : r = 0
  · subst hr
    have HX0 : Hid (PH = nextN one (ws.map keyW) f u l) := Lib.hid (by have := HX.out; simpa using this)
    clear HX
    by_cases hu1 : u + 1 < m
    · have hu1i : (u : Int) + 1 < (m : Int) := by omega
      have hwu : u < ws.length := by rw [HWM.out]; omega
      obtain ⟨b, o, rfl, hb, hcs⟩ := (HWD.out _ HLS.out.bl).2 (by omega)
      have hcu := hcs u hwu
      obtain ⟨s, hs⟩ : ∃ s, ws[u] = s := ⟨_, rfl⟩
      rw [hs] at hcu
      have HSL : Hid (s.length ≤ maxLen) := Lib.hid (HWL.out s (by rw [← hs]; exact List.getElem_mem hwu))
      have HGT : Hid ((ws.map keyW).getD u [] = keyW s) := Lib.hid (by
       rw [List.getD_eq_getElem?_getD, List.getElem?_map, List.getElem?_eq_getElem hwu, hs]; rfl)
      obtain ⟨ca, hca⟩ : ∃ r, andL.contains (keyW s) = r := ⟨_, rfl⟩
      have HCA := Lib.hid hca
      have HAM : Hid (Calls Tryz.prog 23 #[.slice (some ⟨wr.heap.size, 0, none⟩) 2 2, .string ⟨s.toArray⟩] (wr.alloc (.cells #[.string ⟨#[97, 110, 100]⟩, .string ⟨#[44]⟩] 9)) fun e w'' => e = .returned (.bool ca) ∧ Below (wr.alloc (.cells #[.string ⟨#[97, 110, 100]⟩, .string ⟨#[44]⟩] 9)).heap.size (wr.alloc (.cells #[.string ⟨#[97, 110, 100]⟩, .string ⟨#[44]⟩] 9)) w'') := Lib.hid (by
       have := HHAS.out s (some ⟨wr.heap.size, 0, none⟩) andL 2 _ (wds_lit wr andL 9 (by decide)) (by decide) HSL.out
       rw [show andL.map keyW = andL by decide, HCA.out] at this
       exact this)
      have HLSa := Lib.hid (HLS.out.below (bl_a (Below.refl _ _) (.cells #[.string ⟨#[97, 110, 100]⟩, .string ⟨#[44]⟩] 9)))
      have HMEAS := Lib.hid p1
      have hui0 : (0 : Int) ≤ (u : Int) := by omega
      have huim : (u : Int) < (m : Int) := by omega
      clear hcs hs hca
      obtain ⟨hwr, hwr2⟩ : IntKind.i64.wrap ((u : Int) + 1) = (u : Int) + 1 ∧ wrap64 ((u : Int) + 1) = (u : Int) + 1 := ⟨IntWalk.i64_in _ (by omega), IntWalk.wrap64_in _ (by omega)⟩
      go_wp2_with fail
      clear hwr hwr2
      refine HAM.out.mono ?_
      rintro e w3 ⟨rfl, hb3⟩
      have HLS3 := Lib.hid (HLSa.out.below hb3)
      clear kt0 kt1 kt2 kt3 kt4 kt5 kt6 kt7 kt8 kt9 kt10 kt11 kt12 kt13 kt14
      clear b0 b1 b2 b3 b4 b5 b6 b7 b8 b9 bA bB bC
      clear HLSt HLSw HLSp p0 p1 p2 g0 g1 g2
      clear hb3 HLS HLSa HAM hcu hzp
      have HLS := HLS3
      clear HLS3
      have hzp : pb < w3.heap.size := HLS.out.bp.lt
      have HLSt := Lib.hid HLS.out.bt
      have HLSw := Lib.hid HLS.out.bw
      obtain ⟨kt0, kt1, kt2, kt3, kt4, kt5, kt6, kt7, kt8, kt9, kt10, kt11, kt12, kt13, kt14⟩ := tab15 (HLSt.out)
      obtain ⟨b0, b1, b2, b3, b4, b5, b6, b7, b8, b9, bA, bB, bC⟩ := wd13 (HLSw.out)
      have HLSp := Lib.hid HLS.out.bp
      have p0 := HLSp.out.cell 0
      have p1 := HLSp.out.cell 1
      have p2 := HLSp.out.cell 2
      have g0 := HLSp.out.fr 0
      have g1 := HLSp.out.fr 1
      have g2 := HLSp.out.fr 2
      simp only [List.getElem?_cons_zero, List.getElem?_cons_succ] at p0 p1 p2
      cases ca with
      | false =>
        have HPF : Hid (PH = ⟨l, u, 0⟩) := Lib.hid (by rw [HX0.out, next_no (fun h => by have h9 := h.2; rw [HGT.out, HCA.out] at h9; cases h9)])
        -- the world: the phrase itself is returned
        have HBR : Hid (BK w3 (w.heap.size + 1 + 1) [.slice none 0 0, .int .i64 0, .int .i64 0] 36) := Lib.hid HLS.out.br
        obtain ⟨q0, q1, q2, n0, n1, n2⟩ := bk3 HBR.out
        have hz2 : w.heap.size + 1 + 1 < (w3).heap.size := HBR.out.lt
        go_wp2_with fail
        generalize hWf : World.setCell _ ⟨w.heap.size + 1 + 1, 2, none⟩ _ = Wf
        have HFin : BK Wf (w.heap.size + 1 + 1) [.slice va l.length vc, .int .i64 u, .int .i64 0] 36 := by
         rw [← hWf]
         have := ((HBR.out.set 0 (.slice va l.length vc)).set 1 (.int .i64 u)).set 2 (.int .i64 0)
         simp only [List.set_cons_zero, List.set_cons_succ] at this
         exact this
        have HLF : Below w.heap.size w Wf := by
         rw [← hWf]
         exact bl_s (bl_s (bl_s HLS.out.bl _ _) _ _) _ _
        have HOWf : Hid (OwnInts w.heap.size Wf (.slice va l.length vc) l) := Lib.hid (by
         rw [← hWf]
         exact (((HLS.out.row.set HOM0.out.1 0 _).set HOM0.out.1 1 _).set HOM0.out.1 2 _).base HOM0.out.2)
        clear hWf
        have HLFh := Lib.hid HLF
        obtain ⟨-, -, -, v0, v1, v2⟩ := bk3 HFin
        clear HLF
        rw [HPF.out]
        refine bodyPost_ret (v := .agg #[.slice va l.length vc, .int .i64 u, .int .i64 0]) ?_ rfl ⟨va, vc, rfl, HOWf.out, HLFh.out⟩
        simp [results, Tryz.results34, go_sem, v0, v1, v2]
      | true =>
        obtain ⟨f', rfl⟩ : ∃ f', f = f' + 1 := ⟨f - 1, by omega⟩
        have HNX := Lib.hid (HX0.out.trans (next_go (one := one) (ks := ws.map keyW) (f := f') (u := u) (l := l) ⟨by rw [List.length_map, HWM.out]; exact hu1, by rw [HGT.out]; exact HCA.out⟩))
        obtain ⟨u2, hu2⟩ : ∃ u2, u + 1 = u2 := ⟨_, rfl⟩
        have hu2i : (u : Int) + 1 = (u2 : Int) := by omega
        rw [hu2] at HNX
        have hd2 : (ws.drop u2).length = m - u2 := by rw [List.length_drop, HWM.out]
        have HIT2 := Lib.hid (fun w' (hb : Below w.heap.size w w') => HIT.out (some ⟨b, o + u2, none⟩) (ws.drop u2) (c - u2) w' hb (wds_drop (HWD.out w' hb) u2 b o rfl) (by rw [hd2]; omega) (by rw [hd2]; omega))
        rw [hd2, List.map_drop] at HIT2
        have HUSQ : Hid ((itemN (one ((ws.map keyW).drop u2))).us ≤ m - u2) := Lib.hid (by rw [item_us]; have := HUS.out ((ws.map keyW).drop u2); rw [List.length_drop, List.length_map, HWM.out] at this; exact this)
        have HFOQ := Lib.hid (fun l u e => item_form (r := one ((ws.map keyW).drop u2)) (l := l) (u := u) (e := e))
        generalize itemN (one ((ws.map keyW).drop u2)) = p2' at *
        obtain ⟨lq, uq, rq⟩ := p2'
        have HFQ := Lib.hid (HFOQ.out lq uq rq rfl)
        have hlq : lq.length ≤ 1 := by
         rcases HFQ.out with ⟨_, x0, hx⟩ | ⟨_, hx⟩
         · rw [hx]; exact Nat.le_refl _
         · rw [hx]; exact Nat.zero_le _
        have HLQ := Lib.hid hlq
        dsimp only at HNX HUSQ
        have huq := HUSQ.out
        have hcne : ¬ (c = u2) := by omega
        have hu20 : (0 : Int) ≤ (u2 : Int) := by omega
        have hu2m : (u2 : Int) ≤ (m : Int) := by omega
        have hu2n : u2 ≤ m := by omega
        have hz0 : w.heap.size < w3.heap.size := HLSt.out.lt
        have hz1 : w.heap.size + 1 < w3.heap.size := HLSw.out.lt
        clear HFOQ HX0 hd2 hlq
        obtain ⟨hwr, hwr2, hwr3⟩ : IntKind.i64.wrap ((u : Int) + 1) = (u2 : Int) ∧ wrap64 ((u : Int) + 1) = (u2 : Int) ∧ IntKind.i64.wrap (u2 : Int) = (u2 : Int) := ⟨by rw [IntWalk.i64_in _ (by omega)]; exact hu2i, by rw [IntWalk.wrap64_in _ (by omega)]; exact hu2i, IntWalk.i64_in _ (by omega)⟩
        go_upto_region 3 with (fail)
        go_cut [8] (fun s8 wx => ∃ (qb : Nat) (qa : Option Addr) (qc : Nat), s8 = .pointer (some ⟨qb, 0, none⟩) ∧ Hid (LsR x t q w wx pb va vc l u 0) ∧ Hid (BK wx qb [.slice qa lq.length qc, .int .i64 uq, .int .i64 rq] 36) ∧ Hid (Ints wx (.slice qa lq.length qc) lq) ∧ Hid (w3.heap.size ≤ qb) ∧ Hid (∀ b o, qa = some ⟨b, o, none⟩ → w3.heap.size ≤ b))
        case first =>
         refine region_ways (.rd 0 (.rd 1 (.rd 2 (.rd 3 (.rd 4 (.rd 5 (.rd 6 (.two 7 8 (.one 8 (.one 9 .done)) (.one 7 (.one 9 .done)))))))))) (fun w' => Below w3.heap.size w3 w') (by kernel_rfl) (by kernel_rfl) ((Below.refl _ _).drew) (fun KK hKK => ?_)
         intro OPS
         simp only [Ways.see, List.getElem?_cons_zero, List.getElem?_cons_succ]
         iterate 7
          (refine' inWays_read ?_ ?_ ?_ ?_
           rotate_left 2
           · rfl
           · (intro w' hS; obtain ⟨hcc, hff⟩ := bcell hS; go_simp; first | done | with_reducible rfl)
           · (simp only [Act.put, List.setIfInBounds_toArray, List.set_cons_zero, List.set_cons_succ]; with_reducible rfl))
         refine inWays_two ?_ ?_
         · refine' inWays_call ?_ ?_ ?_
           rotate_left 2
           · rfl
           · (go_simp; exact ⟨rfl, rfl⟩)
           refine (HIT2.out _ (bl_then HLS.out.bl (Below.refl _ _).drew)).mono ?_
           rintro e w6 ⟨qa, qc, rfl, hI6, hb6⟩
           have HB6 : Hid (Below w3.heap.size w3 w6) := Lib.hid (bl_then (Below.refl _ _).drew hb6)
           dsimp only at hI6 ⊢
           have HF6 : Hid (∀ b o, qa = some ⟨b, o, none⟩ → w3.heap.size ≤ b) := Lib.hid (fun b o e => ow_ge hI6.1 b o e)
           have HI6 := Lib.hid (hI6.ints (by unfold maxLen; have := HLQ.out; omega))
           clear hb6 hI6
           refine ⟨_, rfl, HB6.out, ?_⟩
           simp only [Act.put, List.setIfInBounds_toArray, List.set_cons_zero, List.set_cons_succ]
           refine' inWays_val ?_ ?_ ?_ ?_ ?_
           rotate_left 3
           · rfl
           · (go_simp; first | exact ⟨rfl, rfl⟩ | with_reducible rfl)
           · exact bl_a HB6.out _
           · (simp only [Act.put, List.setIfInBounds_toArray, List.set_cons_zero, List.set_cons_succ]; with_reducible rfl)
           have hz36 : w3.heap.size ≤ w6.heap.size := HB6.out.size
           generalize hWa : World.alloc w6 _ = Wa
           have HBK : Hid (BK Wa w6.heap.size [.slice none 0 0, .int .i64 0, .int .i64 0] 36) := Lib.hid (by rw [← hWa]; exact BK.new _ _ _)
           have HBa : Hid (Below w3.heap.size w3 Wa) := Lib.hid (by rw [← hWa]; exact bl_a HB6.out _)
           have HB6a : Hid (Below w6.heap.size w6 Wa) := Lib.hid (by rw [← hWa]; exact bl_a (Below.refl _ _) _)
           clear hWa
           have y0 := HBK.out.cell 0
           have y1 := HBK.out.cell 1
           have y2 := HBK.out.cell 2
           have x0 := HBK.out.fr 0
           have x1 := HBK.out.fr 1
           have x2 := HBK.out.fr 2
           simp only [List.getElem?_cons_zero, List.getElem?_cons_succ] at y0 y1 y2
           have hzb : w6.heap.size < (Wa).heap.size := HBK.out.lt
           refine' inWays_skip ?_ ?_ ?_ ?_ ?_
           rotate_left 2
           · rfl
           · (go_simp; first | exact ⟨rfl, rfl⟩ | with_reducible rfl)
           · exact bl_s (bl_s (bl_s HBa.out _ _) _ _) _ _
           · (simp only [Act.put, List.setIfInBounds_toArray, List.set_cons_zero, List.set_cons_succ]; with_reducible rfl)
           refine inWays_nil (hKK.out _ _ ?_)
           clear hwr hwr2 hwr3
           have HBz := bl_s (bl_s (bl_s HBa.out 0 (.slice qa lq.length qc) (k := w6.heap.size)) 1 (.int .i64 uq) (k := w6.heap.size)) 2 (.int .i64 rq) (k := w6.heap.size)
           have HKz : BK ((((Wa).setCell ⟨w6.heap.size, 0, none⟩ (.slice qa lq.length qc)).setCell ⟨w6.heap.size, 1, none⟩ (.int .i64 uq)).setCell ⟨w6.heap.size, 2, none⟩ (.int .i64 rq)) w6.heap.size [.slice qa lq.length qc, .int .i64 uq, .int .i64 rq] 36 := by
            have := ((HBK.out.set 0 (.slice qa lq.length qc)).set 1 (.int .i64 uq)).set 2 (.int .i64 rq)
            simp only [List.set_cons_zero, List.set_cons_succ] at this
            exact this
           go_wp2_with fail
           go_meet
           case' rel =>
            skip
           exact ⟨w6.heap.size, qa, qc, rfl, Lib.hid (HLS.out.below HBz), Lib.hid HKz, Lib.hid (HI6.out.below (bl_s (bl_s (bl_s HB6a.out _ _) _ _) _ _)), Lib.hid hz36, HF6⟩
         · refine' inWays_val ?_ ?_ ?_ ?_ ?_
           rotate_left 3
           · rfl
           · (go_simp; first | exact ⟨rfl, rfl⟩ | with_reducible rfl)
           · exact bl_a ((Below.refl _ _).drew) _
           · (simp only [Act.put, List.setIfInBounds_toArray, List.set_cons_zero, List.set_cons_succ]; with_reducible rfl)
           generalize hWa : World.drew (World.alloc w3 _) = Wa
           have HBK0 : Hid (BK Wa w3.heap.size [.slice none 0 0, .int .i64 0, .int .i64 0] 36) := Lib.hid (by rw [← hWa]; exact BK.new w3 _ _)
           have HBa0 : Hid (Below w3.heap.size w3 Wa) := Lib.hid (by rw [← hWa]; exact (bl_a (Below.refl _ _) _).drew)
           clear hWa
           refine' inWays_call ?_ ?_ ?_
           rotate_left 2
           · rfl
           · (go_simp; exact ⟨rfl, rfl⟩)
           refine (HIT2.out _ (bl_then HLS.out.bl HBa0.out)).mono ?_
           rintro e w6 ⟨qa, qc, rfl, hI6, hb6⟩
           dsimp only at hI6 ⊢
           have HBa : Hid (Below w3.heap.size w3 w6) := Lib.hid (bl_then HBa0.out hb6)
           have HBK := Lib.hid (HBK0.out.below hb6)
           have HF6 : Hid (∀ b o, qa = some ⟨b, o, none⟩ → w3.heap.size + 1 ≤ b) := Lib.hid (fun b o e => Nat.le_trans HBK0.out.lt (ow_ge hI6.1 b o e))
           have HI6 := Lib.hid (hI6.ints (by unfold maxLen; have := HLQ.out; omega))
           clear hI6 hb6
           refine ⟨_, rfl, HBa.out, ?_⟩
           simp only [Act.put, List.setIfInBounds_toArray, List.set_cons_zero, List.set_cons_succ]
           have y0 := HBK.out.cell 0
           have y1 := HBK.out.cell 1
           have y2 := HBK.out.cell 2
           have x0 := HBK.out.fr 0
           have x1 := HBK.out.fr 1
           have x2 := HBK.out.fr 2
           simp only [List.getElem?_cons_zero, List.getElem?_cons_succ] at y0 y1 y2
           have hzb : w3.heap.size < (w6).heap.size := HBK.out.lt
           refine' inWays_skip ?_ ?_ ?_ ?_ ?_
           rotate_left 2
           · rfl
           · (go_simp; first | exact ⟨rfl, rfl⟩ | with_reducible rfl)
           · exact bl_s (bl_s (bl_s HBa.out _ _) _ _) _ _
           · (simp only [Act.put, List.setIfInBounds_toArray, List.set_cons_zero, List.set_cons_succ]; with_reducible rfl)
           refine inWays_nil (hKK.out _ _ ?_)
           clear hwr hwr2 hwr3
           have HBz := bl_s (bl_s (bl_s HBa.out 0 (.slice qa lq.length qc) (k := w3.heap.size)) 1 (.int .i64 uq) (k := w3.heap.size)) 2 (.int .i64 rq) (k := w3.heap.size)
           have HKz : BK ((((w6).setCell ⟨w3.heap.size, 0, none⟩ (.slice qa lq.length qc)).setCell ⟨w3.heap.size, 1, none⟩ (.int .i64 uq)).setCell ⟨w3.heap.size, 2, none⟩ (.int .i64 rq)) w3.heap.size [.slice qa lq.length qc, .int .i64 uq, .int .i64 rq] 36 := by
            have := ((HBK.out.set 0 (.slice qa lq.length qc)).set 1 (.int .i64 uq)).set 2 (.int .i64 rq)
            simp only [List.set_cons_zero, List.set_cons_succ] at this
            exact this
           go_wp2_with fail
           go_meet
           case' rel =>
            skip
           exact ⟨w3.heap.size, qa, qc, rfl, Lib.hid (HLS.out.below HBz), Lib.hid HKz, Lib.hid (ints_but HI6.out ((((But.refl w6.heap.size _ _).set (List.mem_singleton.2 rfl) _ _).set (List.mem_singleton.2 rfl) _ _).set (List.mem_singleton.2 rfl) _ _) (fun b o e hm => by have := HF6.out b o e; have := List.mem_singleton.1 hm; omega)), Lib.hid (Nat.le_refl _), Lib.hid (fun b o e => by have := HF6.out b o e; omega)⟩
        case rest =>
         obtain ⟨qb, qa, qc, rfl, HLS9, HKQ, HIQ, HQB, HQA⟩ := hcut
         have HSZ := Lib.hid HLS.out.size
         have HPQ : Hid (pb ≠ qb) := Lib.hid (by have := HQB.out; omega)
         clear kt0 kt1 kt2 kt3 kt4 kt5 kt6 kt7 kt8 kt9 kt10 kt11 kt12 kt13 kt14
         clear b0 b1 b2 b3 b4 b5 b6 b7 b8 b9 bA bB bC
         clear HLSt HLSw HLSp p0 p1 p2 g0 g1 g2
         clear HLS hz0 hz1 hzp hwr hwr2 hwr3 HIT2
         have HLS := HLS9
         clear HLS9
         as_aux_lemma =>
          have HBQ : Hid (∀ b, (Value.slice va l.length vc).ownBlock = some b → b < qb) := Lib.hid (fun b e => by have := HSZ.out b e; have := HQB.out; omega)
          have hqq := HQB.out
          have huq := HUSQ.out
          have HLSt := Lib.hid HLS.out.bt
          have HLSw := Lib.hid HLS.out.bw
          obtain ⟨kt0, kt1, kt2, kt3, kt4, kt5, kt6, kt7, kt8, kt9, kt10, kt11, kt12, kt13, kt14⟩ := tab15 (HLSt.out)
          obtain ⟨b0, b1, b2, b3, b4, b5, b6, b7, b8, b9, bA, bB, bC⟩ := wd13 (HLSw.out)
          have HLSp := Lib.hid HLS.out.bp
          have p0 := HLSp.out.cell 0
          have p1 := HLSp.out.cell 1
          have p2 := HLSp.out.cell 2
          have g0 := HLSp.out.fr 0
          have g1 := HLSp.out.fr 1
          have g2 := HLSp.out.fr 2
          simp only [List.getElem?_cons_zero, List.getElem?_cons_succ] at p0 p1 p2
          have z0 := HKQ.out.cell 0
          have z1 := HKQ.out.cell 1
          have z2 := HKQ.out.cell 2
          simp only [List.getElem?_cons_zero, List.getElem?_cons_succ] at z0 z1 z2
          have hzp : pb < wc.heap.size := HLS.out.bp.lt
          have hzq : qb < wc.heap.size := HKQ.out.lt
          by_cases hrq : rq = 0
          · subst hrq
            obtain ⟨xq, rfl⟩ : ∃ x, lq = [x] := by
             rcases HFQ.out with ⟨_, h⟩ | ⟨h, _⟩
             · exact h
             · exact absurd rfl h
            have HN2 : Hid (PH = nextN one (ws.map keyW) f' (u2 + uq) (addN l xq)) := Lib.hid (by have := HNX.out; simpa using this)
            clear HNX HFQ
            obtain ⟨bq, oq, hqa, hbq, hcq⟩ := HIQ.out.at2 (by simp)
            subst hqa
            have HBQ2 : Hid (w3.heap.size ≤ bq) := Lib.hid (HQA.out bq oq rfl)
            have hcx := hcq 0 (by simp)
            simp only [Nat.add_zero, List.getElem_cons_zero] at hcx
            simp only [List.length_singleton] at z0 HKQ
            clear hcq HIQ HQA
            have hlm : l.length ≤ maxLen := by unfold maxLen; omega
            have HINC := Lib.hid (fun w' (hb : Below wc.heap.size wc w') => refIn va l vc xq w' ((HLS.out.row.ints hlm).below hb))
            obtain ⟨ct, hct⟩ : ∃ r, l.contains xq = r := ⟨_, rfl⟩
            rw [hct] at HINC
            have HCT := Lib.hid hct
            clear hct
            obtain ⟨ln, hln⟩ : ∃ n, l.length = n := ⟨_, rfl⟩
            have HLN := Lib.hid hln
            rw [hln] at p0 HINC
            clear hln hlm
            go_wp2_with fail
            refine region_text (fun w' => Below (wc).heap.size (wc) w') (by kernel_rfl) (by kernel_rfl) ((Below.refl _ _).drew) (fun KK hKK => ?_)
            intro OPS
            try simp only [List.append]
            repeat (first
             | (refine' inText_val ?_ ?_ ?_ ?_
                rotate_left 2
                · rfl
                · (intro w' hS; obtain ⟨hcc, hff⟩ := bcell hS; go_simp; first | with_reducible rfl | skip)
                · (simp only [Act.put, List.setIfInBounds_toArray, List.set_cons_zero, List.set_cons_succ]; with_reducible rfl))
             | (refine' inText_call ?_ ?_ ?_ ?_ ?_
                rotate_left 4
                · rfl
                · (intro w' hS; obtain ⟨hcc, hff⟩ := bcell hS; go_simp; exact ⟨rfl, rfl⟩)
                · (intro w' hS
                   ((with_reducible refine (HINC.out w' hS).mono ?_); exact fun e w'' h => ⟨h.1, by rw [← h.2]; exact hS⟩))
                · (simp only [Act.put, List.setIfInBounds_toArray, List.set_cons_zero, List.set_cons_succ]; with_reducible rfl)))
            refine inText_nil (hKK.out _ (fun w5 hS => ?_))
            have HLS5 := Lib.hid (HLS.out.below hS)
            have HKQ5 := Lib.hid (HKQ.out.below hS)
            have HCX5 : Hid (w5.cell? ⟨bq, oq, none⟩ = some (.int .i64 xq)) := Lib.hid ((hS.cell (p := ⟨bq, oq, none⟩) hbq).trans hcx)
            have HBQ5 : Hid (bq < w5.heap.size) := Lib.hid (Nat.lt_of_lt_of_le hbq hS.size)
            clear hS hKK OPS hzp hzq z0 z1 z2 hcx hbq
            clear kt0 kt1 kt2 kt3 kt4 kt5 kt6 kt7 kt8 kt9 kt10 kt11 kt12 kt13 kt14
            clear b0 b1 b2 b3 b4 b5 b6 b7 b8 b9 bA bB bC
            clear HLSt HLSw HLSp p0 p1 p2 g0 g1 g2
            clear HLS HKQ
            cases ct with
            | true =>
              have HN3 : Hid (PH = nextN one (ws.map keyW) f' (u2 + uq) l) := Lib.hid (by rw [HN2.out]; unfold addN; rw [HCT.out]; rfl)
              clear HN2
              have HLS := HLS5
              have HKQ := HKQ5
              clear HLS5 HKQ5
              have HLL : Hid (l.length ≤ u2 + 1) := Lib.hid (by omega)
              -- the world; address, capacity, the list
              have HLL8 : Hid ((l).length ≤ u2 + 1) := HLL
              have HLSt := Lib.hid HLS.out.bt
              have HLSw := Lib.hid HLS.out.bw
              obtain ⟨kt0, kt1, kt2, kt3, kt4, kt5, kt6, kt7, kt8, kt9, kt10, kt11, kt12, kt13, kt14⟩ := tab15 (HLSt.out)
              obtain ⟨b0, b1, b2, b3, b4, b5, b6, b7, b8, b9, bA, bB, bC⟩ := wd13 (HLSw.out)
              have HLSp := Lib.hid HLS.out.bp
              have p0 := HLSp.out.cell 0
              have p1 := HLSp.out.cell 1
              have p2 := HLSp.out.cell 2
              have g0 := HLSp.out.fr 0
              have g1 := HLSp.out.fr 1
              have g2 := HLSp.out.fr 2
              simp only [List.getElem?_cons_zero, List.getElem?_cons_succ] at p0 p1 p2
              have z0 := HKQ.out.cell 0
              have z1 := HKQ.out.cell 1
              have z2 := HKQ.out.cell 2
              simp only [List.getElem?_cons_zero, List.getElem?_cons_succ] at z0 z1 z2
              have hzp : pb < (w5).heap.size := HLS.out.bp.lt
              have hzq : qb < (w5).heap.size := HKQ.out.lt
              have HLSu : Hid (LsR x t q w ((w5).setCell ⟨pb, 1, none⟩ (.int .i64 ((u2 : Int) + (uq : Int)))) pb va vc l (u2 + uq) 0) := Lib.hid (by
               have := HLS.out.use (u2 + uq)
               rw [Int.natCast_add] at this
               exact this)
              obtain ⟨hwr, hwr2, hwr3, hwr4, hwr5⟩ : IntKind.i64.wrap ((u : Int) + 1) = (u2 : Int) ∧ wrap64 ((u : Int) + 1) = (u2 : Int) ∧ IntKind.i64.wrap (u2 : Int) = (u2 : Int) ∧ IntKind.i64.wrap ((u2 : Int) + (uq : Int)) = (u2 : Int) + (uq : Int) ∧ wrap64 ((u2 : Int) + (uq : Int)) = (u2 : Int) + (uq : Int) := ⟨by rw [IntWalk.i64_in _ (by omega)]; exact hu2i, by rw [IntWalk.wrap64_in _ (by omega)]; exact hu2i, IntWalk.i64_in _ (by omega), IntWalk.i64_in _ (by omega), IntWalk.wrap64_in _ (by omega)⟩
              go_wp2_with fail
              clear hwr hwr2 hwr3 hwr4 hwr5
              clear kt0 kt1 kt2 kt3 kt4 kt5 kt6 kt7 kt8 kt9 kt10 kt11 kt12 kt13 kt14
              clear b0 b1 b2 b3 b4 b5 b6 b7 b8 b9 bA bB bC
              clear HLSt HLSw HLSp p0 p1 p2 g0 g1 g2
              clear z0 z1 z2
              have hll := HLL8.out
              go_roundw
              case rel => exact ⟨f', u2 + uq, 0, l, va, vc, by omega, by omega, by omega, HLSu, Lib.hid (by rw [if_pos rfl]; exact HN3.out)⟩
              case measure =>
               have hn := HLSu.out.bp.cell 1
               simp only [List.getElem?_cons_zero, List.getElem?_cons_succ] at hn
               rw [hn, HMEAS.out]
               simp [intOf]
               omega
            | false =>
              have HN3 : Hid (PH = nextN one (ws.map keyW) f' (u2 + uq) (l ++ [xq])) := Lib.hid (by rw [HN2.out]; unfold addN; rw [HCT.out]; rfl)
              clear HN2
              have HOW : Hid (w5.ownsRow (w.heap.size + 3) 3 1 (.slice va ln vc) ln (l.map (Value.int .i64))) := Lib.hid (by have := HLS5.out.row.1; rwa [HLN.out] at this)
              have HRD : Hid (∀ w' : World, (w5.heap.size ≤ w'.heap.size ∧ ∀ z, z < w5.heap.size → (Value.slice va ln vc).ownBlock ≠ some z → w'.heap[z]? = w5.heap[z]?) →
                  w'.cell? ⟨pb, 0, none⟩ = some (.slice va ln vc) ∧ w'.cell? ⟨qb, 0, none⟩ = some (.slice (some ⟨bq, oq, none⟩) 1 qc) ∧ w'.cell? ⟨bq, oq, none⟩ = some (.int .i64 xq) ∧ pb < w'.heap.size ∧ qb < w'.heap.size ∧ bq < w'.heap.size) := Lib.hid (fun w' hS => by
               have h1 := HLS5.out.bp.lt
               have h2 := HKQ5.out.lt
               have h3 := HBQ5.out
               have h4 := HSZ.out
               have h5 := HLS5.out.ne
               have h6 := HBQ.out
               have h7 := HBQ2.out
               rw [HLN.out] at h4 h5 h6
               refine ⟨?_, ?_, ?_, by omega, by omega, by omega⟩
               · rw [World.cell?_of_block (a := ⟨pb, 0, none⟩) (hS.2 pb h1 (fun e => h5 _ e rfl))]
                 have := HLS5.out.bp.cell 0
                 rw [HLN.out] at this; exact this
               · rw [World.cell?_of_block (a := ⟨qb, 0, none⟩) (hS.2 qb h2 (fun e => by have := h6 _ e; omega))]; exact HKQ5.out.cell 0
               · rw [World.cell?_of_block (a := ⟨bq, oq, none⟩) (hS.2 bq h3 (fun e => by have := h4 _ e; omega))]; exact HCX5.out)
              have hln1000 : ln ≤ 1001 := by have := HLN.out; omega
              have hwz : w.heap.size + 3 ≤ w5.heap.size := by have := HLS5.out.bp.lt; omega
              go_upto_region 7 with (fail)
              as_aux_lemma =>
               refine region_last (.rd 0 (.rd 1 (.rd 2 (.rd 3 (.rd 4 (.rd 5 (.one 6 (.one 7 (.one 8 .done))))))))) (fun w' : World => w5.heap.size ≤ w'.heap.size ∧ ∀ z, z < w5.heap.size → (Value.slice va ln vc).ownBlock ≠ some z → w'.heap[z]? = w5.heap[z]?) (by kernel_rfl) (by kernel_rfl) ⟨Nat.le_refl _, fun _ _ _ => rfl⟩ (fun KK hKK => ?_)
               intro OPS
               simp only [Ways.see, List.getElem?_cons_zero, List.getElem?_cons_succ]
               iterate 6
                (refine' inWays_read ?_ ?_ ?_ ?_
                 rotate_left 2
                 · rfl
                 · (intro w' hS; obtain ⟨r0, r1, r2, r3, r4, r5⟩ := HRD.out w' hS; go_simp; first | with_reducible rfl | skip)
                 · (simp only [Act.put, List.setIfInBounds_toArray, List.set_cons_zero, List.set_cons_succ]; with_reducible rfl))
               refine' inWays_val ?_ ?_ ?_ ?_ ?_
               rotate_left 3
               · rfl
               · (go_simp; first | exact ⟨rfl, rfl⟩ | with_reducible rfl)
               · exact sk_alloc _
               · (simp only [Act.put, List.setIfInBounds_toArray, List.set_cons_zero, List.set_cons_succ]; with_reducible rfl)
               generalize hWa : World.drew (World.alloc w5 _) = Wa
               have HBA : Hid (Below w5.heap.size w5 Wa) := Lib.hid (by rw [← hWa]; exact (bl_a (Below.refl _ _) _).drew)
               have HWN : Hid (Wa.ownsRow (w.heap.size + 3) 3 1 (.slice va ln vc) ln (l.map (.int .i64))) := Lib.hid (ow_below HOW.out HBA.out)
               have HNE : Hid (∀ j v, ([Value.int .i64 xq] : List Value)[j]? = some v → Wa.cell? ((⟨w5.heap.size, 0, none⟩ : Addr).add j) = some v) := Lib.hid (by rw [← hWa]; exact int_newS w5 xq 3)
               have HSA : Hid (w5.heap.size ≤ Wa.heap.size ∧ ∀ z, z < w5.heap.size → (Value.slice va ln vc).ownBlock ≠ some z → Wa.heap[z]? = w5.heap[z]?) := Lib.hid (by rw [← hWa]; exact sk_alloc _)
               clear hWa
               refine inWays_append rfl _ _ 23 rfl (w.heap.size + 3) 3 i0 (.int .i64 0) 1 8 Tryz.underlying23 hi hi1 hi2 hi3 rfl (by decide) _ ln (l.map (.int .i64)) rfl HWN.out ⟨w5.heap.size, 0, none⟩ 1 1 [.int .i64 xq] rfl rfl HNE.out (ow_one rfl) (by decide) (by unfold maxLen; omega) (by omega) (Nat.le_trans hwz HSA.out.1) (fun g4 k4 w6 hown3 hgrow3 hat3 hlt3 => ⟨sk_then HSA.out hgrow3, ?_⟩)
               simp only [Act.put, List.setIfInBounds_toArray, List.set_cons_zero, List.set_cons_succ]
               refine' inWays_val ?_ ?_ ?_ ?_ ?_
               rotate_left 3
               · rfl
               · (go_simp; first | exact ⟨rfl, rfl⟩ | with_reducible rfl)
               · exact sk_then HSA.out hgrow3
               · (simp only [Act.put, List.setIfInBounds_toArray, List.set_cons_zero, List.set_cons_succ]; with_reducible rfl)
               refine inWays_nil (hKK.out _ _ ?_)
               have HLSa := Lib.hid (HLS5.out.below HBA.out)
               rw [← HLN.out] at hgrow3 hat3 hown3
               have HM := Lib.hid (HLSa.out.mid hgrow3)
               have HADD := Lib.hid (HLSa.out.add hgrow3 hown3 hat3)
               have HKQ6 := Lib.hid ((HKQ5.out.below HBA.out).kept hgrow3 (fun j e => by have := HBQ.out j e; omega))
               rw [HLN.out] at HADD
               clear hown3 hgrow3 hat3 HOW HWN HNE HSA HRD hKK
               have s0 := HM.out.cell 0
               have s1 := HM.out.fr 0
               simp only [List.getElem?_cons_zero, List.getElem?_cons_succ] at s0
               have hzp6 : pb < w6.heap.size := HM.out.lt
               simp only [List.length_cons, List.length_nil, Nat.zero_add, Nat.reduceAdd, Nat.reduceSub, List.drop_succ_cons, List.drop_zero]
               go_upto_region 8 with (fail)
               generalize hWn : World.setCell w6 _ _ = w7
               have HLS : Hid (LsR x t q w w7 pb (some ⟨g4, 0, none⟩) k4 (l ++ [xq]) u 0) := Lib.hid (by rw [← hWn]; exact HADD.out)
               have HKQ : Hid (BK w7 qb [.slice (some ⟨bq, oq, none⟩) 1 qc, .int .i64 uq, .int .i64 0] 36) := Lib.hid (by rw [← hWn]; exact HKQ6.out.setO HPQ.out _ _)
               have HLL : Hid ((l ++ [xq]).length ≤ u2 + 1) := Lib.hid (by rw [List.length_append, List.length_singleton]; omega)
               clear hWn HADD HM HKQ6 HLS5 HKQ5 s0 s1 hzp6 hlt3
               as_aux_lemma =>
                -- the world; address, capacity, the list
                have HLL8 : Hid (((l ++ [xq])).length ≤ u2 + 1) := HLL
                have HLSt := Lib.hid HLS.out.bt
                have HLSw := Lib.hid HLS.out.bw
                obtain ⟨kt0, kt1, kt2, kt3, kt4, kt5, kt6, kt7, kt8, kt9, kt10, kt11, kt12, kt13, kt14⟩ := tab15 (HLSt.out)
                obtain ⟨b0, b1, b2, b3, b4, b5, b6, b7, b8, b9, bA, bB, bC⟩ := wd13 (HLSw.out)
                have HLSp := Lib.hid HLS.out.bp
                have p0 := HLSp.out.cell 0
                have p1 := HLSp.out.cell 1
                have p2 := HLSp.out.cell 2
                have g0 := HLSp.out.fr 0
                have g1 := HLSp.out.fr 1
                have g2 := HLSp.out.fr 2
                simp only [List.getElem?_cons_zero, List.getElem?_cons_succ] at p0 p1 p2
                have z0 := HKQ.out.cell 0
                have z1 := HKQ.out.cell 1
                have z2 := HKQ.out.cell 2
                simp only [List.getElem?_cons_zero, List.getElem?_cons_succ] at z0 z1 z2
                have hzp : pb < (w7).heap.size := HLS.out.bp.lt
                have hzq : qb < (w7).heap.size := HKQ.out.lt
                have HLSu : Hid (LsR x t q w ((w7).setCell ⟨pb, 1, none⟩ (.int .i64 ((u2 : Int) + (uq : Int)))) pb (some ⟨g4, 0, none⟩) k4 (l ++ [xq]) (u2 + uq) 0) := Lib.hid (by
                 have := HLS.out.use (u2 + uq)
                 rw [Int.natCast_add] at this
                 exact this)
                obtain ⟨hwr, hwr2, hwr3, hwr4, hwr5⟩ : IntKind.i64.wrap ((u : Int) + 1) = (u2 : Int) ∧ wrap64 ((u : Int) + 1) = (u2 : Int) ∧ IntKind.i64.wrap (u2 : Int) = (u2 : Int) ∧ IntKind.i64.wrap ((u2 : Int) + (uq : Int)) = (u2 : Int) + (uq : Int) ∧ wrap64 ((u2 : Int) + (uq : Int)) = (u2 : Int) + (uq : Int) := ⟨by rw [IntWalk.i64_in _ (by omega)]; exact hu2i, by rw [IntWalk.wrap64_in _ (by omega)]; exact hu2i, IntWalk.i64_in _ (by omega), IntWalk.i64_in _ (by omega), IntWalk.wrap64_in _ (by omega)⟩
                go_wp2_with fail
                clear hwr hwr2 hwr3 hwr4 hwr5
                clear kt0 kt1 kt2 kt3 kt4 kt5 kt6 kt7 kt8 kt9 kt10 kt11 kt12 kt13 kt14
                clear b0 b1 b2 b3 b4 b5 b6 b7 b8 b9 bA bB bC
                clear HLSt HLSw HLSp p0 p1 p2 g0 g1 g2
                clear z0 z1 z2
                have hll := HLL8.out
                go_roundw
                case rel => exact ⟨f', u2 + uq, 0, (l ++ [xq]), (some ⟨g4, 0, none⟩), k4, by omega, by omega, by omega, HLSu, Lib.hid (by rw [if_pos rfl]; exact HN3.out)⟩
                case measure =>
                 have hn := HLSu.out.bp.cell 1
                 simp only [List.getElem?_cons_zero, List.getElem?_cons_succ] at hn
                 rw [hn, HMEAS.out]
                 simp [intOf]
                 omega
          · have HPF : Hid (PH = ⟨[], u2 + uq, rq⟩) := Lib.hid (by have := HNX.out; rw [if_neg hrq] at this; exact this)
            have e3 : (rq == 0) = false := by simp [hrq]
            clear hrq
            obtain ⟨hwr, hwr2, hwr3, hwr4, hwr5⟩ : IntKind.i64.wrap ((u : Int) + 1) = (u2 : Int) ∧ wrap64 ((u : Int) + 1) = (u2 : Int) ∧ IntKind.i64.wrap (u2 : Int) = (u2 : Int) ∧ IntKind.i64.wrap ((u2 : Int) + (uq : Int)) = (u2 : Int) + (uq : Int) ∧ wrap64 ((u2 : Int) + (uq : Int)) = (u2 : Int) + (uq : Int) := ⟨by rw [IntWalk.i64_in _ (by omega)]; exact hu2i, by rw [IntWalk.wrap64_in _ (by omega)]; exact hu2i, IntWalk.i64_in _ (by omega), IntWalk.i64_in _ (by omega), IntWalk.wrap64_in _ (by omega)⟩
            -- the world: nothing, with an error
            have HBR : Hid (BK wc (w.heap.size + 1 + 1) [.slice none 0 0, .int .i64 0, .int .i64 0] 36) := Lib.hid HLS.out.br
            obtain ⟨q0, q1, q2, n0, n1, n2⟩ := bk3 HBR.out
            have hz2 : w.heap.size + 1 + 1 < (wc).heap.size := HBR.out.lt
            go_wp2_with fail
            generalize hWf : World.setCell _ ⟨w.heap.size + 1 + 1, 2, none⟩ _ = Wf
            have HFin : BK Wf (w.heap.size + 1 + 1) [.slice none 0 0, .int .i64 ((u2 : Int) + (uq : Int)), .int .i64 rq] 36 := by
             rw [← hWf]
             have := ((HBR.out.set 0 (.slice none 0 0)).set 1 (.int .i64 ((u2 : Int) + (uq : Int)))).set 2 (.int .i64 rq)
             simp only [List.set_cons_zero, List.set_cons_succ] at this
             exact this
            have HLF : Below w.heap.size w Wf := by
             rw [← hWf]
             exact bl_s (bl_s (bl_s HLS.out.bl _ _) _ _) _ _
            clear hWf
            have HLFh := Lib.hid HLF
            obtain ⟨-, -, -, v0, v1, v2⟩ := bk3 HFin
            clear HLF
            rw [HPF.out]
            refine bodyPost_ret (v := .agg #[.slice none 0 0, .int .i64 ((u2 : Int) + (uq : Int)), .int .i64 rq]) ?_ rfl ⟨none, 0, (by show _ = Ending.returned (.agg #[.slice none 0 0, .int .i64 ((u2 + uq : Nat) : Int), .int .i64 rq]); rw [Int.natCast_add]), ⟨World.ownsRow_nil _ _ _ _, fun _ => rfl⟩, HLFh.out⟩
            simp [results, Tryz.results34, go_sem, v0, v1, v2]
    · have HPF : Hid (PH = ⟨l, u, 0⟩) := Lib.hid (by rw [HX0.out, next_no (by rw [List.length_map, HWM.out]; exact fun h => hu1 h.1)])
      have hu1i : ¬ ((u : Int) + 1 < (m : Int)) := by omega
      obtain ⟨hwr, hwr2⟩ : IntKind.i64.wrap ((u : Int) + 1) = (u : Int) + 1 ∧ wrap64 ((u : Int) + 1) = (u : Int) + 1 := ⟨IntWalk.i64_in _ (by omega), IntWalk.wrap64_in _ (by omega)⟩
      -- the world: the phrase itself is returned
      have HBR : Hid (BK wr (w.heap.size + 1 + 1) [.slice none 0 0, .int .i64 0, .int .i64 0] 36) := Lib.hid HLS.out.br
      obtain ⟨q0, q1, q2, n0, n1, n2⟩ := bk3 HBR.out
      have hz2 : w.heap.size + 1 + 1 < (wr).heap.size := HBR.out.lt
      go_wp2_with fail
      generalize hWf : World.setCell _ ⟨w.heap.size + 1 + 1, 2, none⟩ _ = Wf
      have HFin : BK Wf (w.heap.size + 1 + 1) [.slice va l.length vc, .int .i64 u, .int .i64 0] 36 := by
       rw [← hWf]
       have := ((HBR.out.set 0 (.slice va l.length vc)).set 1 (.int .i64 u)).set 2 (.int .i64 0)
       simp only [List.set_cons_zero, List.set_cons_succ] at this
       exact this
      have HLF : Below w.heap.size w Wf := by
       rw [← hWf]
       exact bl_s (bl_s (bl_s HLS.out.bl _ _) _ _) _ _
      have HOWf : Hid (OwnInts w.heap.size Wf (.slice va l.length vc) l) := Lib.hid (by
       rw [← hWf]
       exact (((HLS.out.row.set HOM0.out.1 0 _).set HOM0.out.1 1 _).set HOM0.out.1 2 _).base HOM0.out.2)
      clear hWf
      have HLFh := Lib.hid HLF
      obtain ⟨-, -, -, v0, v1, v2⟩ := bk3 HFin
      clear HLF
      rw [HPF.out]
      refine bodyPost_ret (v := .agg #[.slice va l.length vc, .int .i64 u, .int .i64 0]) ?_ rfl ⟨va, vc, rfl, HOWf.out, HLFh.out⟩
      simp [results, Tryz.results34, go_sem, v0, v1, v2]
  · have HPF : Hid (PH = ⟨l, u, r⟩) := Lib.hid (by rw [HX.out, if_neg hr])
    have e3 : (r == 0) = false := by simp [hr]
    clear hr
    -- the world: the phrase itself is returned
    have HBR : Hid (BK wr (w.heap.size + 1 + 1) [.slice none 0 0, .int .i64 0, .int .i64 0] 36) := Lib.hid HLS.out.br
    obtain ⟨q0, q1, q2, n0, n1, n2⟩ := bk3 HBR.out
    have hz2 : w.heap.size + 1 + 1 < (wr).heap.size := HBR.out.lt
    go_wp2_with fail
    generalize hWf : World.setCell _ ⟨w.heap.size + 1 + 1, 2, none⟩ _ = Wf
    have HFin : BK Wf (w.heap.size + 1 + 1) [.slice va l.length vc, .int .i64 u, .int .i64 r] 36 := by
     rw [← hWf]
     have := ((HBR.out.set 0 (.slice va l.length vc)).set 1 (.int .i64 u)).set 2 (.int .i64 r)
     simp only [List.set_cons_zero, List.set_cons_succ] at this
     exact this
    have HLF : Below w.heap.size w Wf := by
     rw [← hWf]
     exact bl_s (bl_s (bl_s HLS.out.bl _ _) _ _) _ _
    have HOWf : Hid (OwnInts w.heap.size Wf (.slice va l.length vc) l) := Lib.hid (by
     rw [← hWf]
     exact (((HLS.out.row.set HOM0.out.1 0 _).set HOM0.out.1 1 _).set HOM0.out.1 2 _).base HOM0.out.2)
    clear hWf
    have HLFh := Lib.hid HLF
    obtain ⟨-, -, -, v0, v1, v2⟩ := bk3 HFin
    clear HLF
    rw [HPF.out]
    refine bodyPost_ret (v := .agg #[.slice va l.length vc, .int .i64 u, .int .i64 r]) ?_ rfl ⟨va, vc, rfl, HOWf.out, HLFh.out⟩
    simp [results, Tryz.results34, go_sem, v0, v1, v2]
end Go.Proofs.YtjggklfegcejhaaGreat
