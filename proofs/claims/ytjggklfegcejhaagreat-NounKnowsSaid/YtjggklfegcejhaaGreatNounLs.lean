/- Contracts of noun.in and Item.; Contract of noun.list.; Contract of noun.all.; Contract of noun.Parse. -/
import Derived.Test.YtjggklfegcejhaaGreatNounOne
import Derived.Test.YtjggklfegcejhaaGreatNounArt
import Derived.Test.YtjggklfegcejhaaGreatVis
import Derived.Test.YtjggklfegcejhaaGreatAnyM
import Derived.Deep.DeepCutAuto
namespace Go.Proofs.YtjggklfegcejhaaGreat
open Go.RowKit Go.PlainAid
set_option linter.unusedVariables false
set_option linter.unusedSimpArgs false

/-- It returns a phrase. -/
def RetPh (w : World) (p : PhC) (e : Ending) (w' : World) : Prop := ∃ a c, e = .returned (.agg #[.slice a p.th.length c, .int .i64 p.us, .int .i64 p.er]) ∧ Ints w' (.slice a p.th.length c) p.th ∧ Below w.heap.size w w' ∧ (∀ b o, a = some ⟨b, o, none⟩ → w.heap.size ≤ b)
theorem ints_nil (w : World) (c : Nat) (a : Option Addr) : Ints w (.slice a ([] : List Int).length c) [] := ⟨a, c, rfl, Nat.zero_le _, fun h => absurd h (by simp)⟩
set_option maxRecDepth 100000 in
theorem inC (a : Option Addr) (L : List Int) (c : Nat) (x : Int) (w : World) (h : Ints w (.slice a L.length c) L) :
    Calls Tryz.prog 31 #[.slice a L.length c, .int .i64 x] w fun e w' => e = .returned (.bool (L.contains x)) ∧ w = w' := by
  have HW := Lib.hid h
  have hn : L.length ≤ maxLen := by obtain ⟨_, _, _, h1, _⟩ := h; exact h1
  obtain ⟨m, hm⟩ : ∃ m, L.length = m := ⟨_, rfl⟩
  obtain ⟨r, hr⟩ : ∃ r, L.contains x = r := ⟨_, rfl⟩
  have HR := Lib.hid hr
  have HM := Lib.hid hm
  rw [hm] at hn HW ⊢
  rw [hr]
  unfold maxLen at hn
  clear h hm hr
  go_enter Tryz.func31, Tryz.ntmps31
  go_wp2
  go_loop [9] (fun iv => ∃ i : Nat, iv = .int .i64 i ∧ i ≤ m ∧ Hid (∀ j (h : j < L.length), j < i → L[j] ≠ x)) (fun iv => m - (intOf iv).toNat)
  case atStart => exact ⟨0, rfl, Nat.zero_le _, Lib.hid (fun j _ h => by omega)⟩
  case round =>
    obtain ⟨i, rfl, hi, HI⟩ := hrel
    by_cases hlt : i < m
    · have hil : i < L.length := by rw [HM.out]; exact hlt
      obtain ⟨b, o, rfl, hb, hcs⟩ := HW.out.at2 (by omega)
      have hci := hcs i hil
      have HMEM := Lib.hid (List.getElem_mem hil)
      obtain ⟨y, hy⟩ : ∃ y, L[i] = y := ⟨_, rfl⟩
      rw [hy] at hci HMEM
      have HX := Lib.hid hy
      clear hcs hy
      by_cases hyx : y = x
      · have e1 : (y == x) = true := by simp [hyx]
        have HT : Hid (r = true) := Lib.hid (by rw [← HR.out, List.contains_iff_mem, ← hyx]; exact HMEM.out)
        clear hyx
        go_wp2
        go_ret
        exact ⟨by rw [HT.out]; rfl, rfl⟩
      · have e1 : (y == x) = false := by simp [hyx]
        have HI2 : Hid (∀ j (h : j < L.length), j < i + 1 → L[j] ≠ x) := Lib.hid (fun j hj hji => by
          by_cases e : j = i
          · subst e; rw [HX.out]; exact hyx
          · exact HI.out j hj (by omega))
        clear hyx
        go_wp2
        go_round
        case rel => exact ⟨i + 1, by go_num, by omega, HI2⟩
        case measure => simp [intOf]; omega
    · have HF : Hid (r = false) := Lib.hid (by
        rw [← HR.out, ← Bool.not_eq_true, List.contains_iff_mem]
        intro hmem
        obtain ⟨j, hj, e⟩ := List.getElem_of_mem hmem
        exact HI.out j hj (by rw [HM.out] at hj; omega) e)
      go_wp2
      go_ret
      exact ⟨by rw [HF.out]; rfl, rfl⟩
/-- The boxes, and a phrase that comes to be the result. -/
structure Thr (x : TAd) (t : TbC) (q : Wv) (w wr : World) (ph : List Value) : Prop where
  bt : BK wr w.heap.size (tabC x t) 28
  bw : BK wr (w.heap.size + 1) (worldC q) 31
  br : BK wr (w.heap.size + 2) ph 36
  bl : Below w.heap.size w wr
theorem Thr.below {x : TAd} {t : TbC} {q : Wv} {w wr w' : World} {ph : List Value} (h : Thr x t q w wr ph) (hb : Below wr.heap.size wr w') : Thr x t q w w' ph := ⟨h.bt.below hb, h.bw.below hb, h.br.below hb, bl_then h.bl hb⟩
theorem Thr.new (x : TAd) (t : TbC) (q : Wv) (w : World) (ph : List Value) : Thr x t q w (((w.alloc (.cells (tabC x t).toArray 28)).alloc (.cells (worldC q).toArray 31)).alloc (.cells ph.toArray 36)) ph := by
  have z1 : (w.alloc (.cells (tabC x t).toArray 28)).heap.size = w.heap.size + 1 := World.size_alloc _ _
  have z2 : ((w.alloc (.cells (tabC x t).toArray 28)).alloc (.cells (worldC q).toArray 31)).heap.size = w.heap.size + 2 := by rw [World.size_alloc, z1]
  refine ⟨((BK.new w (tabC x t) 28).alloc _).alloc _, ?_, ?_, bl_a (bl_a (bl_a (Below.refl _ _) _) _) _⟩
  · have := BK.new (w.alloc (.cells (tabC x t).toArray 28)) (worldC q) 31
    rw [z1] at this
    exact this.alloc _
  · have := BK.new ((w.alloc (.cells (tabC x t).toArray 28)).alloc (.cells (worldC q).toArray 31)) ph 36
    rwa [z2] at this
/-- The one thing that words mean, of a world. -/
def oneW (t : TbC) (q : Wv) (d : WdC) (ks : List TxC) : Int × Nat × Int := oneN t (seenTo (seesN d t.th.length) t.th.length) (isW t.th.length q.it && seesN d t.th.length q.it) q.it ks
set_option maxRecDepth 100000 in
set_option maxHeartbeats 8000000 in
theorem itemC (x : TAd) (t : TbC) (q : Wv) (d : WdC) (a : Option Addr) (ws : List TxC) (c : Nat) (w : World) (ht : TabIs w x t) (hW : WOk w q d t.th.length) (hL : ∀ y, (reachV d t.th.length y).length ≤ 1000000)
    (hw : Wds w a ws) (hc : ws.length ≤ c) (hwl : ws.length ≤ 1000) :
    Calls Tryz.prog 8 #[tabV x t, worldV q, .slice a ws.length c] w (RetPh w (itemN (oneW t q d (ws.map keyW)))) := by
  have hnew := Thr.new x t q w [.slice none 0 0, .int .i64 0, .int .i64 0]
  obtain ⟨W0, hW0⟩ : ∃ W0, ((w.alloc (.cells (tabC x t).toArray 28)).alloc (.cells (worldC q).toArray 31)).alloc (.cells ([.slice none 0 0, .int .i64 0, .int .i64 0] : List Value).toArray 36) = W0 := ⟨_, rfl⟩
  rw [hW0] at hnew
  have HST := Lib.hid hnew
  have HON := Lib.hid (fun w' (hb : Below w.heap.size w w') => oneC x t q d a ws c w' (ht.below hb) (hW.below hb) hL (hw.below hb) hc hwl)
  unfold oneW
  generalize oneN t (seenTo (seesN d t.th.length) t.th.length) (isW t.th.length q.it && seesN d t.th.length q.it) q.it (ws.map keyW) = R at *
  obtain ⟨r1, r2, r3⟩ := R
  obtain ⟨PH, hPH⟩ : ∃ p, itemN (r1, r2, r3) = p := ⟨_, rfl⟩
  rw [hPH]
  have HPH := Lib.hid hPH
  clear ht hW hL hw hnew hPH
  have HSTt := Lib.hid HST.out.bt
  have HSTw := Lib.hid HST.out.bw
  obtain ⟨kt0, kt1, kt2, kt3, kt4, kt5, kt6, kt7, kt8, kt9, kt10, kt11, kt12, kt13, kt14⟩ := tab15 (HSTt.out)
  obtain ⟨b0, b1, b2, b3, b4, b5, b6, b7, b8, b9, bA, bB, bC⟩ := wd13 (HSTw.out)
  unfold tabV worldV at *
  go_enter Tryz.func8, Tryz.ntmps8
  unfold worldC at HON hW0 ⊢
  unfold tabC at HON hW0 ⊢
  go_wp2_with fail
  clear hW0
  refine (HON.out _ HST.out.bl).mono ?_
  rintro e w1 ⟨rfl, hb1⟩
  have HST1 := Lib.hid (HST.out.below hb1)
  clear kt0 kt1 kt2 kt3 kt4 kt5 kt6 kt7 kt8 kt9 kt10 kt11 kt12 kt13 kt14
  clear b0 b1 b2 b3 b4 b5 b6 b7 b8 b9 bA bB bC
  clear HSTt HSTw
  clear hb1 HST HON
  have HST := HST1
  clear HST1
  have HBR : Hid (BK w1 (w.heap.size + 1 + 1) [.slice none 0 0, .int .i64 0, .int .i64 0] 36) := Lib.hid HST.out.br
  have f0 := HBR.out.fr 0
  have f1 := HBR.out.fr 1
  have f2 := HBR.out.fr 2
  have c0 := HBR.out.cell 0
  have c1 := HBR.out.cell 1
  have c2 := HBR.out.cell 2
  simp only [List.getElem?_cons_zero, List.getElem?_cons_succ] at c0 c1 c2
  have hz : w.heap.size + 1 + 1 < w1.heap.size := HBR.out.lt
  have HSZ : Hid (w.heap.size ≤ w1.heap.size) := Lib.hid HST.out.bl.size
  by_cases hr3 : r3 = 0
  · subst hr3
    have HIT : Hid (PH = ⟨[r1], r2, 0⟩) := Lib.hid (by rw [← HPH.out]; rfl)
    go_wp2_with fail
    generalize hWf : World.setCell _ ⟨w.heap.size + 1 + 1, 2, none⟩ _ = Wg
    have HFin0 : BK Wg (w.heap.size + 1 + 1) [.slice (some ⟨w1.heap.size, 0, none⟩) 1 1, .int .i64 r2, .int .i64 0] 36 := by
      rw [← hWf]
      have := ((HBR.out.set 0 (.slice (some ⟨w1.heap.size, 0, none⟩) 1 1)).set 1 (.int .i64 r2)).set 2 (.int .i64 0)
      simpa only [List.set_cons_zero, List.set_cons_succ] using this
    have hsz : Wg.heap.size = w1.heap.size := by rw [← hWf]; simp [World.setCell]
    have HLG : Below w.heap.size w Wg := by
      rw [← hWf]
      exact bl_s (bl_s (bl_s HST.out.bl _ _) _ _) _ _
    have HFin := HFin0.alloc (.cells #[.int .i64 r1] 3)
    have HNF : BK (Wg.alloc (.cells #[.int .i64 r1] 3)) w1.heap.size [.int .i64 r1] 3 := by
      have := BK.new Wg [.int .i64 r1] 3
      rw [hsz] at this
      exact this
    have HLF := bl_a HLG (.cells #[.int .i64 r1] 3)
    clear hWf HFin0 HLG hsz
    generalize Wg.alloc (.cells #[.int .i64 r1] 3) = Wf at *
    have HNFh := Lib.hid HNF
    have HLFh := Lib.hid HLF
    have e0 := HFin.cell 0
    have e1 := HFin.cell 1
    have e2 := HFin.cell 2
    simp only [List.getElem?_cons_zero, List.getElem?_cons_succ] at e0 e1 e2
    clear HNF HLF
    rw [HIT.out]
    refine bodyPost_ret (v := .agg #[.slice (some ⟨w1.heap.size, 0, none⟩) 1 1, .int .i64 r2, .int .i64 0]) ?_ rfl ⟨some ⟨w1.heap.size, 0, none⟩, 1, rfl, ⟨some ⟨w1.heap.size, 0, none⟩, 1, rfl, by show 1 ≤ maxLen; decide, fun _ => ⟨w1.heap.size, 0, rfl, HNFh.out.lt, fun i hi => ?_⟩⟩, HLFh.out, fun b o e => by simp only [Option.some.injEq, Addr.mk.injEq, and_true] at e; rw [← e.1]; exact HSZ.out⟩
    · simp [results, Tryz.results8, go_sem, e0, e1, e2]
    · have : i = 0 := by have : i < 1 := hi; omega
      subst this
      exact HNFh.out.cell 0
  · have e3 : (r3 == 0) = false := by simp [hr3]
    have e4 : (r3 != 0) = true := by simp [hr3]
    have HIT : Hid (PH = ⟨[], r2, r3⟩) := Lib.hid (by rw [← HPH.out]; unfold itemN; simp [hr3])
    clear hr3
    go_wp2_with fail
    generalize hWf : World.setCell _ ⟨w.heap.size + 1 + 1, 2, none⟩ _ = Wf
    have HFin : BK Wf (w.heap.size + 1 + 1) [.slice none 0 0, .int .i64 r2, .int .i64 r3] 36 := by
      rw [← hWf]
      have := ((HBR.out.set 0 (.slice none 0 0)).set 1 (.int .i64 r2)).set 2 (.int .i64 r3)
      simpa only [List.set_cons_zero, List.set_cons_succ] using this
    have HLF : Below w.heap.size w Wf := by
      rw [← hWf]
      exact bl_s (bl_s (bl_s HST.out.bl _ _) _ _) _ _
    clear hWf
    have HLFh := Lib.hid HLF
    have e0 := HFin.cell 0
    have e1 := HFin.cell 1
    have e2 := HFin.cell 2
    simp only [List.getElem?_cons_zero, List.getElem?_cons_succ] at e0 e1 e2
    clear HLF
    rw [HIT.out]
    refine bodyPost_ret (v := .agg #[.slice none 0 0, .int .i64 r2, .int .i64 r3]) ?_ rfl ⟨none, 0, rfl, ints_nil _ _ _, HLFh.out, fun b o e => by cases e⟩
    simp [results, Tryz.results8, go_sem, e0, e1, e2]
end Go.Proofs.YtjggklfegcejhaaGreat
namespace Go.Proofs.YtjggklfegcejhaaGreat
open Go.RowKit Go.PlainAid
set_option linter.unusedVariables false
set_option linter.unusedSimpArgs false

/-- The boxes: tables, world, the result, the phrase that grows. -/
structure Fou (x : TAd) (t : TbC) (q : Wv) (w wr : World) (va : Option Addr) (vc : Nat) (l : List Int) (u : Nat) : Prop where
  bt : BK wr w.heap.size (tabC x t) 28
  bw : BK wr (w.heap.size + 1) (worldC q) 31
  br : BK wr (w.heap.size + 2) [.slice none 0 0, .int .i64 0, .int .i64 0] 36
  bp : BK wr (w.heap.size + 3) [.slice va l.length vc, .int .i64 u, .int .i64 0] 36
  row : OwnInts (w.heap.size + 4) wr (.slice va l.length vc) l
  bl : Below w.heap.size w wr
theorem Fou.below {x : TAd} {t : TbC} {q : Wv} {w wr w' : World} {va : Option Addr} {vc : Nat} {l : List Int} {u : Nat} (h : Fou x t q w wr va vc l u) (hb : Below wr.heap.size wr w') : Fou x t q w w' va vc l u :=
  ⟨h.bt.below hb, h.bw.below hb, h.br.below hb, h.bp.below hb, h.row.below hb, bl_then h.bl hb⟩
/-- Another number of words. -/
theorem Fou.use {x : TAd} {t : TbC} {q : Wv} {w wr : World} {va : Option Addr} {vc : Nat} {l : List Int} {u : Nat} (h : Fou x t q w wr va vc l u) (u2 : Nat) : Fou x t q w (wr.setCell ⟨w.heap.size + 3, 1, none⟩ (.int .i64 u2)) va vc l u2 := by
  refine ⟨h.bt.setO (by omega) _ _, h.bw.setO (by omega) _ _, h.br.setO (by omega) _ _, ?_, ⟨?_, h.row.2⟩, h.bl.setCell (p := ⟨w.heap.size + 3, 1, none⟩) (by show w.heap.size ≤ w.heap.size + 3; omega) _⟩
  · have := h.bp.set 1 (.int .i64 u2)
    simpa only [List.set_cons_zero, List.set_cons_succ] using this
  · exact h.row.1.kept (gr_set wr (w.heap.size + 3) 1 (.int .i64 u2)) (.inr (fun e => by have := ow_lo h.row.1 _ e; omega))
/-- One thing more. -/
theorem Fou.add {x : TAd} {t : TbC} {q : Wv} {w wr w3 : World} {va : Option Addr} {vc : Nat} {l : List Int} {u : Nat} {g3 cap3 : Nat} {c : Int} {o : Obj} (h : Fou x t q w wr va vc l u)
    (hg : (wr.alloc o).grownBy w3 (Value.slice va l.length vc).ownBlock) (hown : w3.ownsRow (w.heap.size + 4) 3 1 (.slice (some ⟨g3, 0, none⟩) (l.length + 1) cap3) (l.length + 1) (l.map (Value.int .i64) ++ [.int .i64 c])) :
    Fou x t q w (w3.setCell ⟨w.heap.size + 3, 0, none⟩ (.slice (some ⟨g3, 0, none⟩) (l.length + 1) cap3)) (some ⟨g3, 0, none⟩) cap3 (l ++ [c]) u := by
  have hlo : ∀ j, (Value.slice va l.length vc).ownBlock = some j → w.heap.size + 4 ≤ j := fun j hj => ow_lo h.row.1 j hj
  have hz : w.heap.size + 3 < wr.heap.size := h.bp.lt
  refine ⟨((h.bt.alloc o).kept hg (fun j hj => by have := hlo j hj; omega)).setO (by omega) _ _, ((h.bw.alloc o).kept hg (fun j hj => by have := hlo j hj; omega)).setO (by omega) _ _, ((h.br.alloc o).kept hg (fun j hj => by have := hlo j hj; omega)).setO (by omega) _ _, ?_, ⟨?_, fun e => by simp at e⟩, ?_⟩
  · have := ((h.bp.alloc o).kept hg (fun j hj => by have := hlo j hj; omega)).set 0 (.slice (some ⟨g3, 0, none⟩) (l.length + 1) cap3)
    rw [List.length_append]
    simp only [List.length_cons, List.length_nil, Nat.zero_add]
    simpa only [List.set_cons_zero, List.set_cons_succ] using this
  · have := hown.kept (gr_set w3 (w.heap.size + 3) 0 (.slice (some ⟨g3, 0, none⟩) (l.length + 1) cap3)) (.inr (fun e => by have := ow_lo hown _ e; omega))
    rw [List.length_append]
    simpa using this
  · exact ((h.bl.trans ((bl_a (Below.refl wr.heap.size wr) o).mono (by omega))).grown hg (by rw [World.size_alloc]; omega) (fun j hj => by have := hlo j hj; omega)).setCell (p := ⟨w.heap.size + 3, 0, none⟩) (by show w.heap.size ≤ w.heap.size + 3; omega) _
theorem wds_drop {w : World} {a : Option Addr} {l : List TxC} (h : Wds w a l) (u : Nat) : ∀ b o, a = some ⟨b, o, none⟩ → Wds w (some ⟨b, o + u, none⟩) (l.drop u) := fun b o e => by
  subst e
  by_cases hu : u ≤ l.length
  · have := h.mid u (l.length - u) (by omega)
    rwa [List.take_of_length_le (by rw [List.length_drop]; omega)] at this
  · rw [List.drop_eq_nil_of_le (by omega)]
    exact ⟨fun s hs => (by cases hs), fun hn => absurd hn (by simp)⟩
theorem wds_nil (w : World) (a : Option Addr) : Wds w a [] := ⟨fun s hs => (by cases hs), fun hn => absurd hn (by simp)⟩
/-- A list of numbers, kept where another block is written. -/
theorem ints_but {w w' : World} {a : Option Addr} {c : Nat} {L : List Int} {S : List Nat} (h : Ints w (.slice a L.length c) L) (hb : But w.heap.size S w w') (hs : ∀ b o, a = some ⟨b, o, none⟩ → b ∉ S) : Ints w' (.slice a L.length c) L := by
  obtain ⟨a', c', he, hm, h1⟩ := h
  simp only [Value.slice.injEq, true_and] at he
  obtain ⟨rfl, rfl⟩ := he
  refine ⟨a, c, rfl, hm, fun hn => ?_⟩
  obtain ⟨b, o, rfl, hbl, hcs⟩ := h1 hn
  exact ⟨b, o, rfl, Nat.lt_of_lt_of_le hbl hb.size, fun i hi => (hb.cell hbl (hs b o rfl)).trans (hcs i hi)⟩
theorem ow_far {w : World} {B k : Nat} {a : Option Addr} {n c m : Nat} {xs : List Value} (h : w.ownsRow B 3 1 (.slice a n c) m xs) (hk : k < B) : ∀ b o, a = some ⟨b, o, none⟩ → b ∉ [k] := fun b o e hm => by
  subst e
  have := ow_lo h b rfl
  have := List.mem_singleton.1 hm
  omega
theorem ow_ge {w : World} {B : Nat} {a : Option Addr} {n c m : Nat} {xs : List Value} (h : w.ownsRow B 3 1 (.slice a n c) m xs) : ∀ b o, a = some ⟨b, o, none⟩ → B ≤ b := fun b o e => by
  subst e
  exact ow_lo h b rfl
set_option maxRecDepth 100000 in
set_option maxHeartbeats 8000000 in
theorem listNC (x : TAd) (t : TbC) (q : Wv) (d : WdC) (a : Option Addr) (ws : List TxC) (c : Nat) (w : World) (ht : TabIs w x t) (hW : WOk w q d t.th.length) (hL : ∀ y, (reachV d t.th.length y).length ≤ 1000000)
    (hw : Wds w a ws) (hc : ws.length ≤ c) (hwl : ws.length ≤ 1000) :
    Calls Tryz.prog 29 #[tabV x t, worldV q, .slice a ws.length c] w (RetPh w (listN (oneW t q d) (ws.map keyW) (ws.length + 1) 0 [])) := by
  obtain ⟨W0, hW0⟩ : ∃ W0, (((w.alloc (.cells (tabC x t).toArray 28)).alloc (.cells (worldC q).toArray 31)).alloc (.cells ([.slice none 0 0, .int .i64 0, .int .i64 0] : List Value).toArray 36)).alloc (.cells ([.slice none 0 0, .int .i64 0, .int .i64 0] : List Value).toArray 36) = W0 := ⟨_, rfl⟩
  have HST : Hid (Fou x t q w W0 none 0 [] 0) := Lib.hid (by
    rw [← hW0]
    have hn := Thr.new x t q w [.slice none 0 0, .int .i64 0, .int .i64 0]
    have hz := hn.br.lt
    have hp := BK.new (((w.alloc (.cells (tabC x t).toArray 28)).alloc (.cells (worldC q).toArray 31)).alloc (.cells ([.slice none 0 0, .int .i64 0, .int .i64 0] : List Value).toArray 36)) [.slice none 0 0, .int .i64 0, .int .i64 0] 36
    have z3 : (((w.alloc (.cells (tabC x t).toArray 28)).alloc (.cells (worldC q).toArray 31)).alloc (.cells ([.slice none 0 0, .int .i64 0, .int .i64 0] : List Value).toArray 36)).heap.size = w.heap.size + 3 := by rw [World.size_alloc, World.size_alloc, World.size_alloc]
    rw [z3] at hp
    exact ⟨hn.bt.alloc _, hn.bw.alloc _, hn.br.alloc _, hp, ⟨World.ownsRow_nil _ _ _ _, fun _ => rfl⟩, bl_a hn.bl _⟩)
  have HON := Lib.hid (fun a' ws' c' w' (hb : Below w.heap.size w w') hw' hc' hwl' => oneC x t q d a' ws' c' w' (ht.below hb) (hW.below hb) hL hw' hc' hwl')
  have HUS := Lib.hid (fun ks => one_used t (seenTo (seesN d t.th.length) t.th.length) (isW t.th.length q.it && seesN d t.th.length q.it) q.it ks)
  have HWD := Lib.hid (fun w' (hb : Below w.heap.size w w') => hw.below hb)
  have HWL := Lib.hid hw.1
  have HKYS := Lib.hid (fun s w' (hs : s.length ≤ maxLen) => nounKey s w' hs)
  have HIN := Lib.hid (fun a L c x w h => inC a L c x w h)
  obtain ⟨i0, hi, hz0, hz1, hz2⟩ := info_parts info_intR
  obtain ⟨one, hone⟩ : ∃ f : List TxC → Int × Nat × Int, (fun ks => oneN t (seenTo (seesN d t.th.length) t.th.length) (isW t.th.length q.it && seesN d t.th.length q.it) q.it ks) = f := ⟨_, rfl⟩
  have hone2 : oneW t q d = one := by rw [← hone]; rfl
  have hone3 : ∀ ks, oneN t (seenTo (seesN d t.th.length) t.th.length) (isW t.th.length q.it && seesN d t.th.length q.it) q.it ks = one ks := fun ks => by rw [← hone]
  simp only [hone3] at HON HUS
  have HO0 : Hid (one [] = (0, 0, 2)) := Lib.hid (by rw [← hone3]; rfl)
  rw [hone2]
  obtain ⟨PH, hPH⟩ : ∃ p, listN one (ws.map keyW) (ws.length + 1) 0 [] = p := ⟨_, rfl⟩
  rw [hPH]
  obtain ⟨m, hwm⟩ : ∃ m, ws.length = m := ⟨_, rfl⟩
  have HWM := Lib.hid hwm
  rw [hwm] at hc hwl hPH ⊢
  have HPH := Lib.hid hPH
  clear ht hW hL hw hwm hPH hone hone2 hone3
  have HSTt := Lib.hid HST.out.bt
  have HSTw := Lib.hid HST.out.bw
  obtain ⟨kt0, kt1, kt2, kt3, kt4, kt5, kt6, kt7, kt8, kt9, kt10, kt11, kt12, kt13, kt14⟩ := tab15 (HSTt.out)
  obtain ⟨b0, b1, b2, b3, b4, b5, b6, b7, b8, b9, bA, bB, bC⟩ := wd13 (HSTw.out)
  unfold tabV worldV at *
  go_enter Tryz.func29, Tryz.ntmps29
  unfold worldC at HON hW0 ⊢
  unfold tabC at HON hW0 ⊢
  go_wp2_with fail
  go_step3
  go_wp2_with fail
  go_step3
  go_wp2_with fail
  clear hW0
  clear kt0 kt1 kt2 kt3 kt4 kt5 kt6 kt7 kt8 kt9 kt10 kt11 kt12 kt13 kt14
  clear b0 b1 b2 b3 b4 b5 b6 b7 b8 b9 bA bB bC
  clear HSTt HSTw
  go_loopw [] (fun wr => ∃ (f u : Nat) (l : List Int) (va : Option Addr) (vc : Nat), u ≤ m ∧ m ≤ f + u ∧ l.length ≤ u ∧ (0 < m → u < m) ∧ Hid (Fou x t q w wr va vc l u) ∧ Hid (listN one (ws.map keyW) (f + 1) u l = PH)) (fun wr => m - (intOf ((wr.cell? ⟨w.heap.size + 1 + 1 + 1, 1, none⟩).getD default)).toNat)
  case atStart => exact ⟨m, 0, [], none, 0, Nat.zero_le _, by omega, Nat.le_refl _, fun h => h, HST, HPH⟩
  case round =>
    obtain ⟨f, u, l, va, vc, hum, hfu, hlu, hum2, HST, HX⟩ := hrel
    by_cases hm0 : m = 0
    · subst hm0
      have hu00 : u = 0 := by omega
      subst hu00
      have HSTt := Lib.hid HST.out.bt
      have HSTw := Lib.hid HST.out.bw
      obtain ⟨kt0, kt1, kt2, kt3, kt4, kt5, kt6, kt7, kt8, kt9, kt10, kt11, kt12, kt13, kt14⟩ := tab15 (HSTt.out)
      obtain ⟨b0, b1, b2, b3, b4, b5, b6, b7, b8, b9, bA, bB, bC⟩ := wd13 (HSTw.out)
      have HP3 := Lib.hid HST.out.bp
      have p0 := HP3.out.cell 0
      have p1 := HP3.out.cell 1
      have p2 := HP3.out.cell 2
      have g0 := HP3.out.fr 0
      have g1 := HP3.out.fr 1
      have g2 := HP3.out.fr 2
      simp only [List.getElem?_cons_zero, List.getElem?_cons_succ] at p0 p1 p2
      have hz0 : w.heap.size < wr.heap.size := HSTt.out.lt
      have hz1 : w.heap.size + 1 < wr.heap.size := HSTw.out.lt
      have hz3 : w.heap.size + 1 + 1 + 1 < wr.heap.size := HP3.out.lt
      have HONu := Lib.hid (fun w' (hb : Below w.heap.size w w') => HON.out a [] c w' hb (wds_nil w' a) (Nat.zero_le _) (by decide))
      rw [List.length_nil, List.map_nil] at HONu
      have hz00 : ((0 : Nat) : Int) = 0 := rfl
      simp only [HO0.out, hz00] at HONu
      clear hz00
      go_wp2_with fail
      refine region_text (fun w' => Below wr.heap.size wr w') (by kernel_rfl) (by kernel_rfl) ((Below.refl _ _).drew) (fun KK hKK => ?_)
      intro OPS
      try simp only [List.append]
      repeat (first
        | (refine' inText_val ?_ ?_ ?_ ?_
           rotate_left 2
           · rfl
           · (intro w' hS; obtain ⟨hcc, hff⟩ := bcell hS; go_simp; first | with_reducible rfl | skip)
           · (simp only [Act.put, List.setIfInBounds_toArray, List.set_cons_zero, List.set_cons_succ]; with_reducible rfl))
        | (refine' inText_call ?_ ?_ ?_ ?_ ?_
           rotate_left 4
           · rfl
           · (intro w' hS; obtain ⟨hcc, hff⟩ := bcell hS; go_simp; exact ⟨rfl, rfl⟩)
           · (intro w' hS
              ((with_reducible refine (HONu.out w' (bl_then HST.out.bl hS)).mono ?_); exact fun e w'' h => ⟨h.1, bl_then hS h.2⟩))
           · (simp only [Act.put, List.setIfInBounds_toArray, List.set_cons_zero, List.set_cons_succ]; with_reducible rfl)))
      refine inText_nil (hKK.out _ (fun w5 hS => ?_))
      have HST5 := Lib.hid (HST.out.below hS)
      clear hKK OPS hS hz0 hz1 hz3
      clear kt0 kt1 kt2 kt3 kt4 kt5 kt6 kt7 kt8 kt9 kt10 kt11 kt12 kt13 kt14
      clear b0 b1 b2 b3 b4 b5 b6 b7 b8 b9 bA bB bC
      clear HSTt HSTw
      clear p0 p1 p2 g0 g1 g2 HP3
      clear HST
      have HST := HST5
      clear HST5
      have HP3 := Lib.hid HST.out.bp
      have p0 := HP3.out.cell 0
      have p1 := HP3.out.cell 1
      have p2 := HP3.out.cell 2
      have g0 := HP3.out.fr 0
      have g1 := HP3.out.fr 1
      have g2 := HP3.out.fr 2
      simp only [List.getElem?_cons_zero, List.getElem?_cons_succ] at p0 p1 p2
      have hz3 : w.heap.size + 1 + 1 + 1 < w5.heap.size := HP3.out.lt
      have HPF : Hid (PH = ⟨[], 0, 2⟩) := Lib.hid (by
        have h0 : ws = [] := List.length_eq_zero_iff.1 HWM.out
        rw [← HX.out, h0]
        simp only [listN, List.map_nil, List.drop_nil, HO0.out]
        rfl)
      have HBR : Hid (BK w5 (w.heap.size + 1 + 1) [.slice none 0 0, .int .i64 0, .int .i64 0] 36) := Lib.hid HST.out.br
      have q0 := HBR.out.fr 0
      have q1 := HBR.out.fr 1
      have q2 := HBR.out.fr 2
      have n0 := HBR.out.cell 0
      have n1 := HBR.out.cell 1
      have n2 := HBR.out.cell 2
      simp only [List.getElem?_cons_zero, List.getElem?_cons_succ] at n0 n1 n2
      have hz2 : w.heap.size + 1 + 1 < w5.heap.size := HBR.out.lt
      go_wp2_with fail
      generalize hWf : World.setCell _ ⟨w.heap.size + 1 + 1, 2, none⟩ _ = Wf
      have HFin : BK Wf (w.heap.size + 1 + 1) [.slice none 0 0, .int .i64 0, .int .i64 2] 36 := by
        rw [← hWf]
        have := (((HBR.out.setO (show w.heap.size + 1 + 1 + 1 ≠ w.heap.size + 1 + 1 by omega) 1 (.int .i64 0)).set 0 (.slice none 0 0)).set 1 (.int .i64 0)).set 2 (.int .i64 2)
        simpa only [List.set_cons_zero, List.set_cons_succ] using this
      have HLF : Below w.heap.size w Wf := by
        rw [← hWf]
        exact bl_s (bl_s (bl_s (bl_s HST.out.bl _ _) _ _) _ _) _ _
      clear hWf
      have HLFh := Lib.hid HLF
      have v0 := HFin.cell 0
      have v1 := HFin.cell 1
      have v2 := HFin.cell 2
      simp only [List.getElem?_cons_zero, List.getElem?_cons_succ] at v0 v1 v2
      clear HLF
      rw [HPF.out]
      refine bodyPost_ret (v := .agg #[.slice none 0 0, .int .i64 0, .int .i64 2]) ?_ rfl ⟨none, 0, rfl, ints_nil _ _ _, HLFh.out, fun b o e => by cases e⟩
      simp [results, Tryz.results29, go_sem, v0, v1, v2]
    · have hlt := hum2 (by omega)
      have HMEAS : Hid (wr.cell? ⟨w.heap.size + 3, 1, none⟩ = some (.int .i64 u)) := Lib.hid (by
        have := HST.out.bp.cell 1
        simp only [List.getElem?_cons_zero, List.getElem?_cons_succ] at this
        exact this)
      have hlw : u < ws.length := by rw [HWM.out]; exact hlt
      obtain ⟨b, o, rfl, hb, hcs⟩ := (HWD.out wr HST.out.bl).2 (by omega)
      have hcne : ¬ (c = u) := by omega
      have hlen : (ws.drop u).length = m - u := by rw [List.length_drop, HWM.out]
      have HONu := Lib.hid (fun w' (hb : Below w.heap.size w w') => HON.out (some ⟨b, o + u, none⟩) (ws.drop u) (c - u) w' hb (wds_drop (HWD.out w' hb) u b o rfl) (by rw [hlen]; omega) (by rw [hlen]; omega))
      rw [hlen, List.map_drop] at HONu
      have hus := HUS.out ((ws.map keyW).drop u)
      have HLN : Hid (((ws.map keyW).drop u).length = m - u) := Lib.hid (by rw [List.length_drop, List.length_map, HWM.out])
      rw [HLN.out] at hus
      have HX2 : Hid (PH = (if (one ((ws.map keyW).drop u)).2.2 = 0 then
          (if u + (one ((ws.map keyW).drop u)).2.1 + 1 < (ws.map keyW).length ∧ andL.contains ((ws.map keyW).getD (u + (one ((ws.map keyW).drop u)).2.1) []) = true then listN one (ws.map keyW) f (u + (one ((ws.map keyW).drop u)).2.1 + 1) (addN l (one ((ws.map keyW).drop u)).1)
           else ⟨addN l (one ((ws.map keyW).drop u)).1, u + (one ((ws.map keyW).drop u)).2.1, 0⟩)
        else ⟨[], u + (one ((ws.map keyW).drop u)).2.1, (one ((ws.map keyW).drop u)).2.2⟩)) := Lib.hid (by rw [← HX.out]; rfl)
      generalize one ((ws.map keyW).drop u) = R at *
      obtain ⟨r1, r2, r3⟩ := R
      dsimp only at hus
      clear hlen hcs
      have HSTt := Lib.hid HST.out.bt
      have HSTw := Lib.hid HST.out.bw
      obtain ⟨kt0, kt1, kt2, kt3, kt4, kt5, kt6, kt7, kt8, kt9, kt10, kt11, kt12, kt13, kt14⟩ := tab15 (HSTt.out)
      obtain ⟨b0, b1, b2, b3, b4, b5, b6, b7, b8, b9, bA, bB, bC⟩ := wd13 (HSTw.out)
      have HP3 := Lib.hid HST.out.bp
      have p0 := HP3.out.cell 0
      have p1 := HP3.out.cell 1
      have p2 := HP3.out.cell 2
      have g0 := HP3.out.fr 0
      have g1 := HP3.out.fr 1
      have g2 := HP3.out.fr 2
      simp only [List.getElem?_cons_zero, List.getElem?_cons_succ] at p0 p1 p2
      have hz0 : w.heap.size < wr.heap.size := HSTt.out.lt
      have hz1 : w.heap.size + 1 < wr.heap.size := HSTw.out.lt
      have hz3 : w.heap.size + 1 + 1 + 1 < wr.heap.size := HP3.out.lt
      have hu0 : (0 : Int) ≤ (u : Int) := by omega
      have hu1 : (u : Int) ≤ (m : Int) := by omega
      go_wp2_with fail
      refine region_text (fun w' => Below wr.heap.size wr w') (by kernel_rfl) (by kernel_rfl) ((Below.refl _ _).drew) (fun KK hKK => ?_)
      intro OPS
      try simp only [List.append]
      repeat (first
        | (refine' inText_val ?_ ?_ ?_ ?_
           rotate_left 2
           · rfl
           · (intro w' hS; obtain ⟨hcc, hff⟩ := bcell hS; go_simp; first | with_reducible rfl | skip)
           · (simp only [Act.put, List.setIfInBounds_toArray, List.set_cons_zero, List.set_cons_succ]; with_reducible rfl))
        | (refine' inText_call ?_ ?_ ?_ ?_ ?_
           rotate_left 4
           · rfl
           · (intro w' hS; obtain ⟨hcc, hff⟩ := bcell hS; go_simp; exact ⟨rfl, rfl⟩)
           · (intro w' hS
              ((with_reducible refine (HONu.out w' (bl_then HST.out.bl hS)).mono ?_); exact fun e w'' h => ⟨h.1, bl_then hS h.2⟩))
           · (simp only [Act.put, List.setIfInBounds_toArray, List.set_cons_zero, List.set_cons_succ]; with_reducible rfl)))
      refine inText_nil (hKK.out _ (fun w5 hS => ?_))
      have HST5 := Lib.hid (HST.out.below hS)
      clear hKK OPS hS hz0 hz1 hz3
      clear kt0 kt1 kt2 kt3 kt4 kt5 kt6 kt7 kt8 kt9 kt10 kt11 kt12 kt13 kt14
      clear b0 b1 b2 b3 b4 b5 b6 b7 b8 b9 bA bB bC
      clear HSTt HSTw
      clear p0 p1 p2 g0 g1 g2 HP3
      clear HST
      have HST := HST5
      clear HST5
      have HP3 := Lib.hid HST.out.bp
      have p0 := HP3.out.cell 0
      have p1 := HP3.out.cell 1
      have p2 := HP3.out.cell 2
      have g0 := HP3.out.fr 0
      have g1 := HP3.out.fr 1
      have g2 := HP3.out.fr 2
      simp only [List.getElem?_cons_zero, List.getElem?_cons_succ] at p0 p1 p2
      have hz3 : w.heap.size + 1 + 1 + 1 < w5.heap.size := HP3.out.lt
      have hwr : IntKind.i64.wrap ((u : Int) + (r2 : Int)) = ((u + r2 : Nat) : Int) := by rw [IntWalk.i64_in _ (by omega)]; omega
      have hwr2 : wrap64 ((u : Int) + (r2 : Int)) = ((u + r2 : Nat) : Int) := by rw [IntWalk.wrap64_in _ (by omega)]; omega
      by_cases hr3 : r3 = 0
      · subst hr3
        have HXK : Hid (PH = (if u + r2 + 1 < m ∧ andL.contains ((ws.map keyW).getD (u + r2) []) = true then listN one (ws.map keyW) f (u + r2 + 1) (addN l r1) else ⟨addN l r1, u + r2, 0⟩)) := Lib.hid (by
          have := HX2.out
          simp only [if_true, List.length_map, HWM.out] at this
          exact this)
        clear HX2 HX
        have HST6' : Fou x t q w (w5.setCell ⟨w.heap.size + 1 + 1 + 1, 1, none⟩ (.int .i64 ((u : Int) + (r2 : Int)))) va vc l (u + r2) := by
          have := HST.out.use (u + r2)
          rw [Int.natCast_add] at this
          exact this
        go_wp2_with fail
        generalize hW6 : World.setCell w5 _ _ = w6
        have HST6 : Hid (Fou x t q w w6 va vc l (u + r2)) := Lib.hid (by rw [← hW6]; exact HST6')
        clear HST6' hW6 HST
        clear p0 p1 p2 g0 g1 g2 HP3
        have HST := HST6
        clear HST6 hz3
        clear hwr hwr2
        have hll : l.length ≤ maxLen := Nat.le_trans (Nat.le_trans hlu (Nat.le_trans hum hwl)) (by decide)
        have hI := HST.out.row.ints hll
        have hci := inC va l vc r1 w6 hI
        clear hI
        refine hci.mono ?_
        rintro e w7 ⟨rfl, rfl⟩
        have HP3 := Lib.hid HST.out.bp
        have p0 := HP3.out.cell 0
        have p1 := HP3.out.cell 1
        have p2 := HP3.out.cell 2
        have g0 := HP3.out.fr 0
        have g1 := HP3.out.fr 1
        have g2 := HP3.out.fr 2
        simp only [List.getElem?_cons_zero, List.getElem?_cons_succ] at p0 p1 p2
        have hz3 : w.heap.size + 1 + 1 + 1 < w6.heap.size := HP3.out.lt
        obtain ⟨ct, hct⟩ : ∃ r, l.contains r1 = r := ⟨_, rfl⟩
        rw [hct]
        cases ct with
        | true =>
          have HAD : Hid (addN l r1 = l) := Lib.hid (by unfold addN; rw [hct]; rfl)
          rw [HAD.out] at HXK
          clear hct
          have HBR : Hid (BK w6 (w.heap.size + 1 + 1) [.slice none 0 0, .int .i64 0, .int .i64 0] 36) := Lib.hid HST.out.br
          have q0 := HBR.out.fr 0
          have q1 := HBR.out.fr 1
          have q2 := HBR.out.fr 2
          have n0 := HBR.out.cell 0
          have n1 := HBR.out.cell 1
          have n2 := HBR.out.cell 2
          simp only [List.getElem?_cons_zero, List.getElem?_cons_succ] at n0 n1 n2
          have hz2 : w.heap.size + 1 + 1 < w6.heap.size := HBR.out.lt
          by_cases hge : m ≤ u + r2 + 1
          · have hge2 : (m : Int) ≤ (u : Int) + (r2 : Int) + 1 := by omega
            have HPF : Hid (PH = ⟨l, u + r2, 0⟩) := Lib.hid (by rw [HXK.out, if_neg (by omega)])
            have hwa : IntKind.i64.wrap ((u : Int) + (r2 : Int) + 1) = (u : Int) + (r2 : Int) + 1 := IntWalk.i64_in _ (by omega)
            have hwb : wrap64 ((u : Int) + (r2 : Int) + 1) = (u : Int) + (r2 : Int) + 1 := IntWalk.wrap64_in _ (by omega)
            go_wp2_with fail
            generalize hWf : World.setCell _ ⟨w.heap.size + 1 + 1, 2, none⟩ _ = Wf
            have HFin : BK Wf (w.heap.size + 1 + 1) [.slice va (l).length vc, .int .i64 ((u : Int) + (r2 : Int)), .int .i64 0] 36 := by
              rw [← hWf]
              have := ((HBR.out.set 0 (.slice va (l).length vc)).set 1 (.int .i64 ((u : Int) + (r2 : Int)))).set 2 (.int .i64 0)
              simpa only [List.set_cons_zero, List.set_cons_succ] using this
            have HBT : But (w6).heap.size [w.heap.size + 1 + 1] w6 Wf := by
              rw [← hWf]
              exact (((But.refl _ _ _).set (List.mem_singleton.2 rfl) _ _).set (List.mem_singleton.2 rfl) _ _).set (List.mem_singleton.2 rfl) _ _
            have HLF : Below w.heap.size w Wf := by
              rw [← hWf]
              exact bl_s (bl_s (bl_s HST.out.bl _ _) _ _) _ _
            clear hWf
            have HIF := Lib.hid (ints_but (HST.out.row.ints hll) HBT (ow_far HST.out.row.1 (by omega)))
            have HLFh := Lib.hid HLF
            have HLO : Hid (∀ b o, (va : Option Addr) = some ⟨b, o, none⟩ → w.heap.size ≤ b) := Lib.hid (fun b o e => Nat.le_trans (by omega) (ow_ge HST.out.row.1 b o e))
            have v0 := HFin.cell 0
            have v1 := HFin.cell 1
            have v2 := HFin.cell 2
            simp only [List.getElem?_cons_zero, List.getElem?_cons_succ] at v0 v1 v2
            clear HLF HBT
            rw [HPF.out]
            rw [Exit.noGoto_ret]
            refine bodyPost_ret (v := .agg #[.slice va (l).length vc, .int .i64 ((u : Int) + (r2 : Int)), .int .i64 0]) ?_ rfl ⟨va, vc, (by show _ = Ending.returned (.agg #[.slice va (l).length vc, .int .i64 ((u + r2 : Nat) : Int), .int .i64 0]); rw [Int.natCast_add]), HIF.out, HLFh.out, HLO.out⟩
            simp [results, Tryz.results29, go_sem, v0, v1, v2]
          · have hge2 : (u : Int) + (r2 : Int) + 1 < (m : Int) := by omega
            have hwu : u + r2 < ws.length := by rw [HWM.out]; omega
            obtain ⟨b', o', hbe, hb', hcs⟩ := (HWD.out _ HST.out.bl).2 (by omega)
            simp only [Option.some.injEq, Addr.mk.injEq, and_true] at hbe
            obtain ⟨rfl, rfl⟩ := hbe
            have hcu := hcs (u + r2) hwu
            obtain ⟨su, hsu⟩ : ∃ s, ws[u + r2] = s := ⟨_, rfl⟩
            rw [hsu] at hcu
            have HSU := Lib.hid hsu
            have HKU := Lib.hid (fun w' => HKYS.out su w' (HWL.out su (by rw [← hsu]; exact List.getElem_mem hwu)))
            have hlu2 : (u : Int) + (r2 : Int) < (m : Int) := by omega
            have hlu0 : (0 : Int) ≤ (u : Int) + (r2 : Int) := by omega
            have hnt : ((u : Int) + (r2 : Int)).toNat = u + r2 := by omega
            clear hcs hsu
            have hwa : IntKind.i64.wrap ((u : Int) + (r2 : Int) + 1) = (u : Int) + (r2 : Int) + 1 := IntWalk.i64_in _ (by omega)
            have hwb : wrap64 ((u : Int) + (r2 : Int) + 1) = (u : Int) + (r2 : Int) + 1 := IntWalk.wrap64_in _ (by omega)
            go_wp2_with fail
            refine (HKU.out _).mono ?_
            rintro e w8 ⟨rfl, hb8⟩
            have HST8 := Lib.hid (HST.out.below hb8)
            have HSTa := Lib.hid (HST8.out.below (bl_a (Below.refl _ _) (.cells #[.string ⟨#[97, 110, 100]⟩, .string ⟨#[44]⟩] 9)))
            have HAM : Hid (Calls Tryz.prog 27 #[.string ⟨(keyW su).toArray⟩, .slice (some ⟨w8.heap.size, 0, none⟩) 2 2] (w8.alloc (.cells #[.string ⟨#[97, 110, 100]⟩, .string ⟨#[44]⟩] 9)) fun e w'' => e = .returned (.bool (andL.contains (keyW su))) ∧ (w8.alloc (.cells #[.string ⟨#[97, 110, 100]⟩, .string ⟨#[44]⟩] 9)) = w'') := Lib.hid (amongC (keyW su) (some ⟨w8.heap.size, 0, none⟩) andL 2 _ (wds_lit w8 andL 9 (by decide)) (by decide))
            have HGT : Hid ((ws.map keyW).getD (u + r2) [] = keyW su) := Lib.hid (by
              rw [List.getD_eq_getElem?_getD, List.getElem?_map, List.getElem?_eq_getElem hwu, HSU.out]; rfl)
            rw [HGT.out] at HXK
            generalize keyW su = ku at HAM HXK
            obtain ⟨cb, hcb⟩ : ∃ r, andL.contains ku = r := ⟨_, rfl⟩
            rw [hcb] at HAM HXK
            clear hb8 hcu hcb HKU
            clear p0 p1 p2 g0 g1 g2 HP3
            clear q0 q1 q2 n0 n1 n2
            go_wp2_with fail
            refine HAM.out.mono ?_
            rintro e w9 ⟨rfl, he9⟩
            rw [he9] at HSTa
            clear he9 HST HST8 HAM hwa hwb
            have HST := HSTa
            clear HSTa
            have HBR : Hid (BK w9 (w.heap.size + 1 + 1) [.slice none 0 0, .int .i64 0, .int .i64 0] 36) := Lib.hid HST.out.br
            have q0 := HBR.out.fr 0
            have q1 := HBR.out.fr 1
            have q2 := HBR.out.fr 2
            have n0 := HBR.out.cell 0
            have n1 := HBR.out.cell 1
            have n2 := HBR.out.cell 2
            simp only [List.getElem?_cons_zero, List.getElem?_cons_succ] at n0 n1 n2
            have HP3 := Lib.hid HST.out.bp
            have p0 := HP3.out.cell 0
            have p1 := HP3.out.cell 1
            have p2 := HP3.out.cell 2
            have g0 := HP3.out.fr 0
            have g1 := HP3.out.fr 1
            have g2 := HP3.out.fr 2
            simp only [List.getElem?_cons_zero, List.getElem?_cons_succ] at p0 p1 p2
            have hz2' : w.heap.size + 1 + 1 < w9.heap.size := HBR.out.lt
            have hz3' : w.heap.size + 1 + 1 + 1 < w9.heap.size := HP3.out.lt
            cases cb with
            | false =>
              have HPF : Hid (PH = ⟨l, u + r2, 0⟩) := Lib.hid (by rw [HXK.out, if_neg (by simp)])
              go_wp2_with fail
              generalize hWf : World.setCell _ ⟨w.heap.size + 1 + 1, 2, none⟩ _ = Wf
              have HFin : BK Wf (w.heap.size + 1 + 1) [.slice va (l).length vc, .int .i64 ((u : Int) + (r2 : Int)), .int .i64 0] 36 := by
                rw [← hWf]
                have := ((HBR.out.set 0 (.slice va (l).length vc)).set 1 (.int .i64 ((u : Int) + (r2 : Int)))).set 2 (.int .i64 0)
                simpa only [List.set_cons_zero, List.set_cons_succ] using this
              have HBT : But (w9).heap.size [w.heap.size + 1 + 1] w9 Wf := by
                rw [← hWf]
                exact (((But.refl _ _ _).set (List.mem_singleton.2 rfl) _ _).set (List.mem_singleton.2 rfl) _ _).set (List.mem_singleton.2 rfl) _ _
              have HLF : Below w.heap.size w Wf := by
                rw [← hWf]
                exact bl_s (bl_s (bl_s HST.out.bl _ _) _ _) _ _
              clear hWf
              have HIF := Lib.hid (ints_but (HST.out.row.ints hll) HBT (ow_far HST.out.row.1 (by omega)))
              have HLFh := Lib.hid HLF
              have HLO : Hid (∀ b o, (va : Option Addr) = some ⟨b, o, none⟩ → w.heap.size ≤ b) := Lib.hid (fun b o e => Nat.le_trans (by omega) (ow_ge HST.out.row.1 b o e))
              have v0 := HFin.cell 0
              have v1 := HFin.cell 1
              have v2 := HFin.cell 2
              simp only [List.getElem?_cons_zero, List.getElem?_cons_succ] at v0 v1 v2
              clear HLF HBT
              rw [HPF.out]
              rw [Exit.noGoto_ret]
              refine bodyPost_ret (v := .agg #[.slice va (l).length vc, .int .i64 ((u : Int) + (r2 : Int)), .int .i64 0]) ?_ rfl ⟨va, vc, (by show _ = Ending.returned (.agg #[.slice va (l).length vc, .int .i64 ((u + r2 : Nat) : Int), .int .i64 0]); rw [Int.natCast_add]), HIF.out, HLFh.out, HLO.out⟩
              simp [results, Tryz.results29, go_sem, v0, v1, v2]
            | true =>
              have HXT : Hid (listN one (ws.map keyW) f (u + r2 + 1) (l) = PH) := Lib.hid (by rw [HXK.out, if_pos ⟨by omega, rfl⟩])
              have hlx : (l).length ≤ u + r2 + 1 := (by omega)
              obtain ⟨f', rfl⟩ : ∃ f', f = f' + 1 := ⟨f - 1, by omega⟩
              have HSTu : Hid (Fou x t q w (w9.setCell ⟨w.heap.size + 1 + 1 + 1, 1, none⟩ (.int .i64 ((u : Int) + (r2 : Int) + 1))) (va) (vc) (l) (u + r2 + 1)) := Lib.hid (by
                have := HST.out.use (u + r2 + 1)
                rw [Int.natCast_add, Int.natCast_add] at this
                exact this)
              have hfu2 : m ≤ f' + (u + r2 + 1) := by omega
              have hum3 : u + r2 + 1 ≤ m := by omega
              have hum4 : u + r2 + 1 < m := by omega
              go_wp2_with fail
              go_roundw
              case rel => exact ⟨f', u + r2 + 1, l, va, vc, hum3, hfu2, hlx, fun _ => hum4, HSTu, HXT⟩
              case measure =>
                have hn := HSTu.out.bp.cell 1
                simp only [List.getElem?_cons_zero, List.getElem?_cons_succ] at hn
                have hn2 : (World.setCell w9 ⟨w.heap.size + 1 + 1 + 1, 1, none⟩ (.int .i64 ((u : Int) + (r2 : Int) + 1))).cell? ⟨w.heap.size + 1 + 1 + 1, 1, none⟩ = some (.int .i64 ((u + r2 + 1 : Nat) : Int)) := hn
                have hm2 : wr.cell? ⟨w.heap.size + 1 + 1 + 1, 1, none⟩ = some (.int .i64 u) := HMEAS.out
                rw [hn2, hm2]
                simp [intOf]
                omega
        | false =>
          have HAD : Hid (addN l r1 = l ++ [r1]) := Lib.hid (by unfold addN; rw [hct]; rfl)
          rw [HAD.out] at HXK
          clear hct
          have HWN := Lib.hid (HST.out.row.1.alloc (.cells #[.int .i64 r1] 3))
          have hne : some (w.heap.size + 3) ≠ (Value.slice va l.length vc).ownBlock := fun e => by have := ow_lo HST.out.row.1 _ e.symm; omega
          have HNE := Lib.hid hne
          clear hne
          go_wp2_with (at_builtin; refine wpList_append_own _ rfl _ _ 23 rfl (w.heap.size + 4) 3 i0 (.int .i64 0) 1 8 Tryz.underlying23 hi hz0 hz1 hz2 rfl (by decide) _ l.length (l.map (Value.int .i64)) rfl HWN.out ⟨w6.heap.size, 0, none⟩ 1 1 [.int .i64 r1] rfl rfl (int_newS _ _ _) (ow_one rfl) (by unfold maxLen; omega) (by omega) (by simp; omega) ?_; intro v3 w3 hown3 hgrow3 _; obtain ⟨g3, cap3, rfl⟩ := ownsRow_succ hown3; have HST2 := Lib.hid (HST.out.add hgrow3 hown3); have hbx3 := (HP3.out.alloc (.cells #[.int .i64 r1] 3)).kept hgrow3 (fun j hj => by have := ow_lo HST.out.row.1 j hj; omega); have HBX3 := Lib.hid hbx3; have HBL3 := Lib.hid (bl_g (bl_a HST.out.bl (.cells #[.int .i64 r1] 3)) hgrow3 (fun j hj => by have := ow_lo HST.out.row.1 j hj; omega)); have HBR3 := Lib.hid ((HST.out.br.alloc (.cells #[.int .i64 r1] 3)).kept hgrow3 (fun j hj => by have := ow_lo HST.out.row.1 j hj; omega)); clear p0 p1 p2 g0 g1 g2; have p0 := HBX3.out.cell 0; have p1 := HBX3.out.cell 1; have p2 := HBX3.out.cell 2; have g0 := HBX3.out.fr 0; have g1 := HBX3.out.fr 1; have g2 := HBX3.out.fr 2; simp only [List.getElem?_cons_zero, List.getElem?_cons_succ] at p0 p1 p2; clear hbx3; clear hown3 hgrow3; refine Hid.out ?_)
          refine Lib.hid ?_
          have HBR : Hid (BK w3 (w.heap.size + 1 + 1) [.slice none 0 0, .int .i64 0, .int .i64 0] 36) := Lib.hid HBR3.out
          have q0 := HBR.out.fr 0
          have q1 := HBR.out.fr 1
          have q2 := HBR.out.fr 2
          have n0 := HBR.out.cell 0
          have n1 := HBR.out.cell 1
          have n2 := HBR.out.cell 2
          simp only [List.getElem?_cons_zero, List.getElem?_cons_succ] at n0 n1 n2
          have hz2 : w.heap.size + 1 + 1 < w3.heap.size := HBR.out.lt
          have hz4 : w.heap.size + 1 + 1 + 1 < w3.heap.size := HBX3.out.lt
          have hll2 : (l ++ [r1]).length ≤ maxLen := by rw [List.length_append]; unfold maxLen; simp; omega
          by_cases hge : m ≤ u + r2 + 1
          · have hge2 : (m : Int) ≤ (u : Int) + (r2 : Int) + 1 := by omega
            have HPF : Hid (PH = ⟨l ++ [r1], u + r2, 0⟩) := Lib.hid (by rw [HXK.out, if_neg (by omega)])
            have hwa : IntKind.i64.wrap ((u : Int) + (r2 : Int) + 1) = (u : Int) + (r2 : Int) + 1 := IntWalk.i64_in _ (by omega)
            have hwb : wrap64 ((u : Int) + (r2 : Int) + 1) = (u : Int) + (r2 : Int) + 1 := IntWalk.wrap64_in _ (by omega)
            go_wp2_with fail
            have hln2 : (l ++ [r1]).length = l.length + 1 := by simp
            rw [← hln2] at HST2 ⊢
            generalize hW7 : World.setCell w3 _ _ = W7
            have HST7 : Hid (Fou x t q w W7 (some ⟨g3, 0, none⟩) cap3 (l ++ [r1]) (u + r2)) := Lib.hid (by rw [← hW7]; exact HST2.out)
            clear HST2 hW7 HST HBR hwa hwb hln2
            have HST := HST7
            clear HST7
            have HBR : Hid (BK W7 (w.heap.size + 1 + 1) [.slice none 0 0, .int .i64 0, .int .i64 0] 36) := Lib.hid HST.out.br
            have hz2' : w.heap.size + 1 + 1 < W7.heap.size := HBR.out.lt
            generalize hWf : World.setCell _ ⟨w.heap.size + 1 + 1, 2, none⟩ _ = Wf
            have HFin : BK Wf (w.heap.size + 1 + 1) [.slice (some ⟨g3, 0, none⟩) ((l ++ [r1])).length cap3, .int .i64 ((u : Int) + (r2 : Int)), .int .i64 0] 36 := by
              rw [← hWf]
              have := ((HBR.out.set 0 (.slice (some ⟨g3, 0, none⟩) ((l ++ [r1])).length cap3)).set 1 (.int .i64 ((u : Int) + (r2 : Int)))).set 2 (.int .i64 0)
              simpa only [List.set_cons_zero, List.set_cons_succ] using this
            have HBT : But (W7).heap.size [w.heap.size + 1 + 1] W7 Wf := by
              rw [← hWf]
              exact (((But.refl _ _ _).set (List.mem_singleton.2 rfl) _ _).set (List.mem_singleton.2 rfl) _ _).set (List.mem_singleton.2 rfl) _ _
            have HLF : Below w.heap.size w Wf := by
              rw [← hWf]
              exact bl_s (bl_s (bl_s HST.out.bl _ _) _ _) _ _
            clear hWf
            have HIF := Lib.hid (ints_but (HST.out.row.ints hll2) HBT (ow_far HST.out.row.1 (by omega)))
            have HLFh := Lib.hid HLF
            have HLO : Hid (∀ b o, ((some ⟨g3, 0, none⟩) : Option Addr) = some ⟨b, o, none⟩ → w.heap.size ≤ b) := Lib.hid (fun b o e => Nat.le_trans (by omega) (ow_ge HST.out.row.1 b o e))
            have v0 := HFin.cell 0
            have v1 := HFin.cell 1
            have v2 := HFin.cell 2
            simp only [List.getElem?_cons_zero, List.getElem?_cons_succ] at v0 v1 v2
            clear HLF HBT
            rw [HPF.out]
            rw [Exit.noGoto_ret]
            refine bodyPost_ret (v := .agg #[.slice (some ⟨g3, 0, none⟩) ((l ++ [r1])).length cap3, .int .i64 ((u : Int) + (r2 : Int)), .int .i64 0]) ?_ rfl ⟨(some ⟨g3, 0, none⟩), cap3, (by show _ = Ending.returned (.agg #[.slice (some ⟨g3, 0, none⟩) ((l ++ [r1])).length cap3, .int .i64 ((u + r2 : Nat) : Int), .int .i64 0]); rw [Int.natCast_add]), HIF.out, HLFh.out, HLO.out⟩
            simp [results, Tryz.results29, go_sem, v0, v1, v2]
          · have hge2 : (u : Int) + (r2 : Int) + 1 < (m : Int) := by omega
            have hwu : u + r2 < ws.length := by rw [HWM.out]; omega
            obtain ⟨b', o', hbe, hb', hcs⟩ := (HWD.out _ HBL3.out).2 (by omega)
            simp only [Option.some.injEq, Addr.mk.injEq, and_true] at hbe
            obtain ⟨rfl, rfl⟩ := hbe
            have hcu := hcs (u + r2) hwu
            obtain ⟨su, hsu⟩ : ∃ s, ws[u + r2] = s := ⟨_, rfl⟩
            rw [hsu] at hcu
            have HSU := Lib.hid hsu
            have HKU := Lib.hid (fun w' => HKYS.out su w' (HWL.out su (by rw [← hsu]; exact List.getElem_mem hwu)))
            have hlu2 : (u : Int) + (r2 : Int) < (m : Int) := by omega
            have hlu0 : (0 : Int) ≤ (u : Int) + (r2 : Int) := by omega
            have hnt : ((u : Int) + (r2 : Int)).toNat = u + r2 := by omega
            have hbne : ¬ (b = w.heap.size + 1 + 1 + 1) := by
              obtain ⟨b0, o0, hbe0, hb0, _⟩ := (HWD.out w (Below.refl _ _)).2 (by omega)
              simp only [Option.some.injEq, Addr.mk.injEq, and_true] at hbe0
              obtain ⟨rfl, rfl⟩ := hbe0
              omega
            have hl2x : (l ++ [r1]).length ≤ u + r2 + 1 := by rw [List.length_append]; simp; omega
            clear hcs hsu
            have hwa : IntKind.i64.wrap ((u : Int) + (r2 : Int) + 1) = (u : Int) + (r2 : Int) + 1 := IntWalk.i64_in _ (by omega)
            have hwb : wrap64 ((u : Int) + (r2 : Int) + 1) = (u : Int) + (r2 : Int) + 1 := IntWalk.wrap64_in _ (by omega)
            go_wp2_with fail
            have hln2 : (l ++ [r1]).length = l.length + 1 := by simp
            rw [← hln2] at HST2 ⊢
            generalize hW7 : World.setCell w3 _ _ = W7
            have HST7 : Hid (Fou x t q w W7 (some ⟨g3, 0, none⟩) cap3 (l ++ [r1]) (u + r2)) := Lib.hid (by rw [← hW7]; exact HST2.out)
            clear HST2 hW7 HST HBR hln2
            have HST := HST7
            clear HST7
            generalize l ++ [r1] = l2 at HST HXK hll2 hl2x ⊢
            have HP3 := Lib.hid HST.out.bp
            refine (HKU.out _).mono ?_
            rintro e w8 ⟨rfl, hb8⟩
            have HST8 := Lib.hid (HST.out.below hb8)
            have HSTa := Lib.hid (HST8.out.below (bl_a (Below.refl _ _) (.cells #[.string ⟨#[97, 110, 100]⟩, .string ⟨#[44]⟩] 9)))
            have HAM : Hid (Calls Tryz.prog 27 #[.string ⟨(keyW su).toArray⟩, .slice (some ⟨w8.heap.size, 0, none⟩) 2 2] (w8.alloc (.cells #[.string ⟨#[97, 110, 100]⟩, .string ⟨#[44]⟩] 9)) fun e w'' => e = .returned (.bool (andL.contains (keyW su))) ∧ (w8.alloc (.cells #[.string ⟨#[97, 110, 100]⟩, .string ⟨#[44]⟩] 9)) = w'') := Lib.hid (amongC (keyW su) (some ⟨w8.heap.size, 0, none⟩) andL 2 _ (wds_lit w8 andL 9 (by decide)) (by decide))
            have HGT : Hid ((ws.map keyW).getD (u + r2) [] = keyW su) := Lib.hid (by
              rw [List.getD_eq_getElem?_getD, List.getElem?_map, List.getElem?_eq_getElem hwu, HSU.out]; rfl)
            rw [HGT.out] at HXK
            generalize keyW su = ku at HAM HXK
            obtain ⟨cb, hcb⟩ : ∃ r, andL.contains ku = r := ⟨_, rfl⟩
            rw [hcb] at HAM HXK
            clear hb8 hcu hcb HKU
            clear p0 p1 p2 g0 g1 g2 HP3
            clear q0 q1 q2 n0 n1 n2
            go_wp2_with fail
            refine HAM.out.mono ?_
            rintro e w9 ⟨rfl, he9⟩
            rw [he9] at HSTa
            clear he9 HST HST8 HAM hwa hwb
            have HST := HSTa
            clear HSTa
            have HBR : Hid (BK w9 (w.heap.size + 1 + 1) [.slice none 0 0, .int .i64 0, .int .i64 0] 36) := Lib.hid HST.out.br
            have q0 := HBR.out.fr 0
            have q1 := HBR.out.fr 1
            have q2 := HBR.out.fr 2
            have n0 := HBR.out.cell 0
            have n1 := HBR.out.cell 1
            have n2 := HBR.out.cell 2
            simp only [List.getElem?_cons_zero, List.getElem?_cons_succ] at n0 n1 n2
            have HP3 := Lib.hid HST.out.bp
            have p0 := HP3.out.cell 0
            have p1 := HP3.out.cell 1
            have p2 := HP3.out.cell 2
            have g0 := HP3.out.fr 0
            have g1 := HP3.out.fr 1
            have g2 := HP3.out.fr 2
            simp only [List.getElem?_cons_zero, List.getElem?_cons_succ] at p0 p1 p2
            have hz2' : w.heap.size + 1 + 1 < w9.heap.size := HBR.out.lt
            have hz3' : w.heap.size + 1 + 1 + 1 < w9.heap.size := HP3.out.lt
            cases cb with
            | false =>
              have HPF : Hid (PH = ⟨l2, u + r2, 0⟩) := Lib.hid (by rw [HXK.out, if_neg (by simp)])
              go_wp2_with fail
              generalize hWf : World.setCell _ ⟨w.heap.size + 1 + 1, 2, none⟩ _ = Wf
              have HFin : BK Wf (w.heap.size + 1 + 1) [.slice (some ⟨g3, 0, none⟩) (l2).length cap3, .int .i64 ((u : Int) + (r2 : Int)), .int .i64 0] 36 := by
                rw [← hWf]
                have := ((HBR.out.set 0 (.slice (some ⟨g3, 0, none⟩) (l2).length cap3)).set 1 (.int .i64 ((u : Int) + (r2 : Int)))).set 2 (.int .i64 0)
                simpa only [List.set_cons_zero, List.set_cons_succ] using this
              have HBT : But (w9).heap.size [w.heap.size + 1 + 1] w9 Wf := by
                rw [← hWf]
                exact (((But.refl _ _ _).set (List.mem_singleton.2 rfl) _ _).set (List.mem_singleton.2 rfl) _ _).set (List.mem_singleton.2 rfl) _ _
              have HLF : Below w.heap.size w Wf := by
                rw [← hWf]
                exact bl_s (bl_s (bl_s HST.out.bl _ _) _ _) _ _
              clear hWf
              have HIF := Lib.hid (ints_but (HST.out.row.ints hll2) HBT (ow_far HST.out.row.1 (by omega)))
              have HLFh := Lib.hid HLF
              have HLO : Hid (∀ b o, ((some ⟨g3, 0, none⟩) : Option Addr) = some ⟨b, o, none⟩ → w.heap.size ≤ b) := Lib.hid (fun b o e => Nat.le_trans (by omega) (ow_ge HST.out.row.1 b o e))
              have v0 := HFin.cell 0
              have v1 := HFin.cell 1
              have v2 := HFin.cell 2
              simp only [List.getElem?_cons_zero, List.getElem?_cons_succ] at v0 v1 v2
              clear HLF HBT
              rw [HPF.out]
              rw [Exit.noGoto_ret]
              refine bodyPost_ret (v := .agg #[.slice (some ⟨g3, 0, none⟩) (l2).length cap3, .int .i64 ((u : Int) + (r2 : Int)), .int .i64 0]) ?_ rfl ⟨(some ⟨g3, 0, none⟩), cap3, (by show _ = Ending.returned (.agg #[.slice (some ⟨g3, 0, none⟩) (l2).length cap3, .int .i64 ((u + r2 : Nat) : Int), .int .i64 0]); rw [Int.natCast_add]), HIF.out, HLFh.out, HLO.out⟩
              simp [results, Tryz.results29, go_sem, v0, v1, v2]
            | true =>
              have HXT : Hid (listN one (ws.map keyW) f (u + r2 + 1) (l2) = PH) := Lib.hid (by rw [HXK.out, if_pos ⟨by omega, rfl⟩])
              have hlx : (l2).length ≤ u + r2 + 1 := hl2x
              obtain ⟨f', rfl⟩ : ∃ f', f = f' + 1 := ⟨f - 1, by omega⟩
              have HSTu : Hid (Fou x t q w (w9.setCell ⟨w.heap.size + 1 + 1 + 1, 1, none⟩ (.int .i64 ((u : Int) + (r2 : Int) + 1))) ((some ⟨g3, 0, none⟩)) (cap3) (l2) (u + r2 + 1)) := Lib.hid (by
                have := HST.out.use (u + r2 + 1)
                rw [Int.natCast_add, Int.natCast_add] at this
                exact this)
              have hfu2 : m ≤ f' + (u + r2 + 1) := by omega
              have hum3 : u + r2 + 1 ≤ m := by omega
              have hum4 : u + r2 + 1 < m := by omega
              go_wp2_with fail
              go_roundw
              case rel => exact ⟨f', u + r2 + 1, l2, (some ⟨g3, 0, none⟩), cap3, hum3, hfu2, hlx, fun _ => hum4, HSTu, HXT⟩
              case measure =>
                have hn := HSTu.out.bp.cell 1
                simp only [List.getElem?_cons_zero, List.getElem?_cons_succ] at hn
                have hn2 : (World.setCell w9 ⟨w.heap.size + 1 + 1 + 1, 1, none⟩ (.int .i64 ((u : Int) + (r2 : Int) + 1))).cell? ⟨w.heap.size + 1 + 1 + 1, 1, none⟩ = some (.int .i64 ((u + r2 + 1 : Nat) : Int)) := hn
                have hm2 : wr.cell? ⟨w.heap.size + 1 + 1 + 1, 1, none⟩ = some (.int .i64 u) := HMEAS.out
                rw [hn2, hm2]
                simp [intOf]
                omega
      · have e3 : (r3 == 0) = false := by simp [hr3]
        have e4 : (r3 != 0) = true := by simp [hr3]
        have HPF : Hid (PH = ⟨[], u + r2, r3⟩) := Lib.hid (by rw [HX2.out]; simp only [if_neg hr3])
        clear hr3
        have HBR : Hid (BK w5 (w.heap.size + 1 + 1) [.slice none 0 0, .int .i64 0, .int .i64 0] 36) := Lib.hid HST.out.br
        have q0 := HBR.out.fr 0
        have q1 := HBR.out.fr 1
        have q2 := HBR.out.fr 2
        have n0 := HBR.out.cell 0
        have n1 := HBR.out.cell 1
        have n2 := HBR.out.cell 2
        simp only [List.getElem?_cons_zero, List.getElem?_cons_succ] at n0 n1 n2
        have hz2 : w.heap.size + 1 + 1 < w5.heap.size := HBR.out.lt
        go_wp2_with fail
        generalize hWf : World.setCell _ ⟨w.heap.size + 1 + 1, 2, none⟩ _ = Wf
        have HFin : BK Wf (w.heap.size + 1 + 1) [.slice none 0 0, .int .i64 ((u : Int) + (r2 : Int)), .int .i64 r3] 36 := by
          rw [← hWf]
          have := (((HBR.out.setO (show w.heap.size + 1 + 1 + 1 ≠ w.heap.size + 1 + 1 by omega) 1 (.int .i64 ((u : Int) + (r2 : Int)))).set 0 (.slice none 0 0)).set 1 (.int .i64 ((u : Int) + (r2 : Int)))).set 2 (.int .i64 r3)
          simpa only [List.set_cons_zero, List.set_cons_succ] using this
        have HLF : Below w.heap.size w Wf := by
          rw [← hWf]
          exact bl_s (bl_s (bl_s (bl_s HST.out.bl _ _) _ _) _ _) _ _
        clear hWf
        have HLFh := Lib.hid HLF
        have v0 := HFin.cell 0
        have v1 := HFin.cell 1
        have v2 := HFin.cell 2
        simp only [List.getElem?_cons_zero, List.getElem?_cons_succ] at v0 v1 v2
        clear HLF
        rw [HPF.out]
        refine bodyPost_ret (v := .agg #[.slice none 0 0, .int .i64 ((u : Int) + (r2 : Int)), .int .i64 r3]) ?_ rfl ⟨none, 0, (by show _ = Ending.returned (.agg #[.slice none 0 0, .int .i64 ((u + r2 : Nat) : Int), .int .i64 r3]); rw [Int.natCast_add]), ints_nil _ _ _, HLFh.out, fun b o e => by cases e⟩
        simp [results, Tryz.results29, go_sem, v0, v1, v2]
end Go.Proofs.YtjggklfegcejhaaGreat
namespace Go.Proofs.YtjggklfegcejhaaGreat
open Go.RowKit Go.PlainAid
set_option linter.unusedVariables false
set_option linter.unusedSimpArgs false

theorem filter_takeN {p : Int → Bool} {L : List Int} {i : Nat} (hi : i < L.length) : (L.take (i + 1)).filter p = (L.take i).filter p ++ (if p L[i] = true then [L[i]] else []) := by
  rw [List.take_succ_eq_append_getElem hi, List.filter_append]
  congr 1
  by_cases hp : p L[i] = true <;> simp [hp]
/-- It returns a list that reads as that, in new memory. -/
def RetFar (w : World) (l : List Int) (e : Ending) (w' : World) : Prop := ∃ a c, e = .returned (.slice a l.length c) ∧ Ints w' (.slice a l.length c) l ∧ Below w.heap.size w w' ∧ (∀ b o, a = some ⟨b, o, none⟩ → w.heap.size ≤ b)
set_option maxRecDepth 100000 in
set_option maxHeartbeats 8000000 in
theorem allC (x : TAd) (t : TbC) (q : Wv) (d : WdC) (n : Nat) (w : World) (hW : WOk w q d n) (hL : ∀ y, (reachV d n y).length ≤ 1000000) :
    Calls Tryz.prog 30 #[tabV x t, worldV q] w (RetFar w (allN (visN d n) (reachV d n 1))) := by
  have hnew := Two.new x t q w
  obtain ⟨W0, hW0⟩ : ∃ W0, (w.alloc (.cells (tabC x t).toArray 28)).alloc (.cells (worldC q).toArray 31) = W0 := ⟨_, rfl⟩
  rw [hW0] at hnew
  have HCA := Lib.hid (fun w' (hb : Below w.heap.size w w') => carriedC x t q d n w' (hW.below hb) (hL 1))
  have HVI := Lib.hid (fun w' (hb : Below w.heap.size w w') => visC x t q d n w' (hW.below hb) hL)
  have HIN := Lib.hid (fun a L c y w' h => inC a L c y w' h)
  obtain ⟨i0, hi, hi1, hi2, hi3⟩ := info_parts info_intR
  have hl1 := hL 1
  have hl2 : (visN d n).length ≤ 1000000 := by
    unfold visN
    split
    · exact Nat.le_trans (List.length_filter_le _ _) (hL _)
    · exact hL 1
  generalize visN d n = L at *
  generalize reachV d n 1 = C at *
  obtain ⟨p, hp⟩ : ∃ p : Int → Bool, (fun y => !C.contains y) = p := ⟨_, rfl⟩
  have HP : Hid (∀ y, p y = !C.contains y) := Lib.hid (fun y => by rw [← hp])
  obtain ⟨R, hR⟩ : ∃ R, allN L C = R := ⟨_, rfl⟩
  have HR : Hid (R = if L.filter p = [] then C else L.filter p) := Lib.hid (by rw [← hR]; unfold allN; rw [hp])
  rw [hR]
  clear hp hR hW hL
  have HTW := Lib.hid (hnew)
  have HTWt := Lib.hid HTW.out.bt
  have HTWw := Lib.hid HTW.out.bw
  obtain ⟨kt0, kt1, kt2, kt3, kt4, kt5, kt6, kt7, kt8, kt9, kt10, kt11, kt12, kt13, kt14⟩ := tab15 (HTWt.out)
  obtain ⟨b0, b1, b2, b3, b4, b5, b6, b7, b8, b9, bA, bB, bC⟩ := wd13 (HTWw.out)
  clear hnew
  unfold tabV worldV at *
  go_enter Tryz.func30, Tryz.ntmps30
  unfold worldC at HCA HVI hW0 ⊢
  unfold tabC at HCA HVI hW0 ⊢
  go_wp2_with fail
  clear hW0
  refine (HCA.out _ HTW.out.bl).mono ?_
  rintro e w1 ⟨v1, rfl, ho1, hb1⟩
  obtain ⟨ca, cc, rfl⟩ := ho1.shape
  have HIC := Lib.hid (ho1.ints (by unfold maxLen; omega))
  have HFC : Hid (∀ b o, ca = some ⟨b, o, none⟩ → w.heap.size ≤ b) := Lib.hid (fun b o e => Nat.le_trans HTW.out.bl.size (ow_lo ho1.1 b (by rw [e]; rfl)))
  have hnew := HTW.out.below hb1
  clear kt0 kt1 kt2 kt3 kt4 kt5 kt6 kt7 kt8 kt9 kt10 kt11 kt12 kt13 kt14
  clear b0 b1 b2 b3 b4 b5 b6 b7 b8 b9 bA bB bC
  clear HTWt HTWw
  clear HTW
  have HTW := Lib.hid (hnew)
  have HTWt := Lib.hid HTW.out.bt
  have HTWw := Lib.hid HTW.out.bw
  obtain ⟨kt0, kt1, kt2, kt3, kt4, kt5, kt6, kt7, kt8, kt9, kt10, kt11, kt12, kt13, kt14⟩ := tab15 (HTWt.out)
  obtain ⟨b0, b1, b2, b3, b4, b5, b6, b7, b8, b9, bA, bB, bC⟩ := wd13 (HTWw.out)
  clear hnew
  clear hb1 ho1
  go_wp2_with fail
  refine (HVI.out _ HTW.out.bl).mono ?_
  rintro e w2 ⟨va0, vc0, rfl, hi2r, hb2⟩
  have HIV := Lib.hid hi2r
  have HIC2 := Lib.hid (HIC.out.below hb2)
  have HBW := Lib.hid (bl_then HTW.out.bl hb2)
  clear hi2r hb2 HIC HVI HCA
  clear kt0 kt1 kt2 kt3 kt4 kt5 kt6 kt7 kt8 kt9 kt10 kt11 kt12 kt13 kt14
  clear b0 b1 b2 b3 b4 b5 b6 b7 b8 b9 bA bB bC
  clear HTWt HTWw
  clear HTW
  obtain ⟨m, hm⟩ : ∃ m, L.length = m := ⟨_, rfl⟩
  have HLM := Lib.hid hm
  rw [hm] at HIV hl2 ⊢
  clear hm
  go_wp2_with fail
  go_loopw [6, 16] (fun ov iv wr => ∃ (i j : Nat) (va : Option Addr) (vc : Nat), ov = .slice va j vc ∧ iv = .int .i64 i ∧ i ≤ m ∧ Hid (((L.take i).filter p).length = j) ∧ Hid (OwnInts w2.heap.size wr (.slice va j vc) ((L.take i).filter p)) ∧ Hid (Below w2.heap.size w2 wr)) (fun _ iv _ => m - (intOf iv).toNat)
  case atStart => exact ⟨0, 0, none, 0, rfl, rfl, Nat.zero_le _, Lib.hid rfl, Lib.hid ⟨World.ownsRow_nil _ _ _ _, fun _ => rfl⟩, Lib.hid (Below.refl _ _)⟩
  case round =>
    obtain ⟨i, j, va, vc, rfl, rfl, hil, HPL, HOW, HBL⟩ := hrel
    have HCr := Lib.hid (HIC2.out.below HBL.out)
    by_cases hlt : i < m
    · have hiL : i < L.length := by rw [HLM.out]; exact hlt
      obtain ⟨b, o, rfl, hb, hcs⟩ := (HIV.out.below HBL.out).at2 (by omega)
      have hci := hcs i hiL
      have HF := Lib.hid (filter_takeN (p := p) hiL)
      have hjm : j ≤ 1000000 := by
        rw [← HPL.out]
        refine Nat.le_trans (List.length_filter_le _ _) ?_
        rw [List.length_take]; omega
      generalize L[i] = c at *
      clear hcs hiL
      have hINc := HIN.out ca C cc c wr HCr.out
      have hpc := HP.out c
      go_wp2_with fail
      refine hINc.mono ?_
      rintro e w3 ⟨rfl, rfl⟩
      clear hINc
      cases hh : C.contains c with
      | true =>
        have hp0 : p c = false := by rw [hpc, hh]; rfl
        have HE : Hid ((L.take (i + 1)).filter p = (L.take i).filter p) := Lib.hid (by rw [HF.out, hp0]; simp)
        clear hh hp0 hpc
        go_wp2_with fail
        go_roundw
        case rel => exact ⟨i + 1, j, va, vc, rfl, by go_num, by omega, Lib.hid (by rw [HE.out]; exact HPL.out), Lib.hid (by rw [HE.out]; exact HOW.out), HBL⟩
        case measure => simp [intOf]; omega
      | false =>
        have hp1 : p c = true := by rw [hpc, hh]; rfl
        have HE : Hid ((L.take (i + 1)).filter p = (L.take i).filter p ++ [c]) := Lib.hid (by rw [HF.out, hp1]; simp)
        have hz2 : w2.heap.size ≤ wr.heap.size := HBL.out.size
        clear hh hp1 hpc HF
        generalize (L.take i).filter p = pre at *
        have hown : wr.ownsRow w2.heap.size 3 1 (.slice va j vc) j (pre.map (Value.int .i64)) := by have := HOW.out.1; rwa [HPL.out] at this
        have HLO := Lib.hid (ow_lo hown)
        have HWN := Lib.hid (hown.alloc (.cells #[.int .i64 c] 3))
        have HBA := Lib.hid (bl_a HBL.out (.cells #[.int .i64 c] 3))
        clear hown
        go_wp2_with (at_builtin; refine wpList_append_own _ rfl _ _ 23 rfl w2.heap.size 3 i0 (.int .i64 0) 1 8 Tryz.underlying23 hi hi1 hi2 hi3 rfl (by decide) _ j (pre.map (Value.int .i64)) rfl HWN.out ⟨wr.heap.size, 0, none⟩ 1 1 [.int .i64 c] rfl rfl (int_newS _ _ _) (ow_one rfl) (by unfold maxLen; omega) (by omega) (by simp; omega) ?_; intro v3 w3 hown3 hgrow3 _; obtain ⟨g3, cap3, rfl⟩ := ownsRow_succ hown3; have HO3 : Hid (OwnInts w2.heap.size w3 (.slice (some ⟨g3, 0, none⟩) (j + 1) cap3) (pre ++ [c])) := Lib.hid ⟨by rw [List.length_append, HPL.out]; simpa using hown3, fun e => by simp at e⟩; have HB3 := Lib.hid (bl_g HBA.out hgrow3 HLO.out); clear hown3 hgrow3)
        go_roundw
        case rel => exact ⟨i + 1, j + 1, _, _, rfl, by go_num, by omega, Lib.hid (by rw [HE.out, List.length_append, HPL.out]; rfl), Lib.hid (by rw [HE.out]; exact HO3.out), HB3⟩
        case measure => simp [intOf]; omega
    · have HE : Hid (L.filter p = (L.take i).filter p) := Lib.hid (by rw [List.take_of_length_le (by rw [HLM.out]; omega)])
      have HBZ := Lib.hid (HBW.out.trans (HBL.out.mono HBW.out.size))
      by_cases hj0 : j = 0
      · subst hj0
        have HRR : Hid (R = C) := Lib.hid (by rw [HR.out, if_pos (by rw [HE.out]; exact List.length_eq_zero_iff.1 HPL.out)])
        go_wp2_with fail
        go_ret
        exact ⟨ca, cc, by rw [HRR.out]; rfl, by rw [HRR.out]; exact HCr.out, HBZ.out, HFC.out⟩
      · have HRR : Hid (R = (L.take i).filter p) := Lib.hid (by rw [HR.out, if_neg (by rw [HE.out]; intro h; rw [h] at HPL; exact hj0 HPL.out.symm), HE.out])
        have hjm : j ≤ 1000000 := by
          rw [← HPL.out]
          refine Nat.le_trans (List.length_filter_le _ _) ?_
          rw [List.length_take]; omega
        generalize (L.take i).filter p = pre at *
        have HFO : Hid (∀ b o, va = some ⟨b, o, none⟩ → w.heap.size ≤ b) := Lib.hid (fun b o e => Nat.le_trans HBW.out.size (ow_lo HOW.out.1 b (by rw [e]; rfl)))
        have HIO := Lib.hid (HOW.out.ints (by rw [HPL.out]; unfold maxLen; omega))
        go_wp2_with fail
        go_ret
        exact ⟨va, vc, by rw [HRR.out, HPL.out]; rfl, by rw [HRR.out, HPL.out]; exact HIO.out, HBZ.out, HFO.out⟩
end Go.Proofs.YtjggklfegcejhaaGreat
namespace Go.Proofs.YtjggklfegcejhaaGreat
open Go.RowKit Go.PlainAid
set_option linter.unusedVariables false
set_option linter.unusedSimpArgs false

theorem one_key {l : List TxC} (h : l.length = 1) : l.map keyW = [keyW (l[0]'(by omega))] := by
  match l, h with
  | [a], _ => rfl
theorem head_key {l : List TxC} (h : 0 < l.length) : ∃ r, l.map keyW = keyW l[0] :: r := by
  match l, h with
  | a :: r, _ => exact ⟨r.map keyW, rfl⟩
theorem two_keys {l : List TxC} (h : 1 < l.length) : l.map keyW = keyW l[0] :: keyW l[1] :: (l.drop 2).map keyW := by
  match l, h with
  | a :: b :: r, _ => rfl
theorem post_mark {P : Program} {f : Func} {R : Ending → World → Prop} {x : Exit} {a : Act} {w : World} (h : bodyPost P f R x a w) : bodyPost P f R x a w := h
theorem inC2 (a : Option Addr) (L : List Int) (n c : Nat) (x : Int) (w : World) (h : Ints w (.slice a n c) L) (hn : L.length = n) :
    Calls Tryz.prog 31 #[.slice a n c, .int .i64 x] w fun e w' => e = .returned (.bool (L.contains x)) ∧ w = w' := by
  subst hn
  exact inC a L c x w h
theorem all_len {vis car : List Int} {n : Nat} (h1 : vis.length ≤ n) (h2 : car.length ≤ n) : (allN vis car).length ≤ n := by
  unfold allN
  split
  · exact h2
  · exact Nat.le_trans (List.length_filter_le _ _) h1
theorem vis_len {d : WdC} {n k : Nat} (hL : ∀ y, (reachV d n y).length ≤ k) : (visN d n).length ≤ k := by
  unfold visN
  split
  · exact Nat.le_trans (List.length_filter_le _ _) (hL _)
  · exact hL 1
theorem list_us {one : List TxC → Int × Nat × Int} (ho : ∀ ks, (one ks).2.1 ≤ ks.length) (ks : List TxC) : ∀ (f u : Nat) (l : List Int), u ≤ ks.length → (listN one ks f u l).us ≤ ks.length
  | 0, u, l, hu => hu
  | f + 1, u, l, hu => by
    have h1 := ho (ks.drop u)
    rw [List.length_drop] at h1
    simp only [listN]
    split
    · split
      case isTrue h => exact list_us ho ks f _ _ (by omega)
      case isFalse h => simp only; omega
    · simp only; omega
/-- The boxes, and a phrase that grows in a block of its own. -/
structure Grw (x : TAd) (t : TbC) (q : Wv) (w W W2 wr : World) (va : Option Addr) (vc : Nat) (l : List Int) (u : Int) : Prop where
  bt : BK wr w.heap.size (tabC x t) 28
  bw : BK wr (w.heap.size + 1) (worldC q) 31
  br : BK wr (w.heap.size + 2) [.slice none 0 0, .int .i64 0, .int .i64 0] 36
  bp : BK wr W.heap.size [.slice va l.length vc, .int .i64 u, .int .i64 0] 36
  row : OwnInts W2.heap.size wr (.slice va l.length vc) l
  bl : Below w.heap.size w wr
  hB : w.heap.size + 3 ≤ W.heap.size
  hF : W.heap.size < W2.heap.size
  hW : W2.heap.size ≤ wr.heap.size
  bn : But W2.heap.size [W.heap.size] W2 wr
  bx : Below W.heap.size W wr
theorem Grw.thr {x : TAd} {t : TbC} {q : Wv} {w W W2 wr : World} {va : Option Addr} {vc : Nat} {l : List Int} {u : Int} (h : Grw x t q w W W2 wr va vc l u) : Thr x t q w wr [.slice none 0 0, .int .i64 0, .int .i64 0] := ⟨h.bt, h.bw, h.br, h.bl⟩
theorem Grw.set9 {x : TAd} {t : TbC} {q : Wv} {w W W2 wr : World} {va : Option Addr} {vc : Nat} {l : List Int} {u : Int} (h : Grw x t q w W W2 wr va vc l u) (v : Value) : Thr x t q w (wr.setCell ⟨W.heap.size, 2, none⟩ v) [.slice none 0 0, .int .i64 0, .int .i64 0] := by
  have := h.hB
  exact ⟨h.bt.setO (by omega) _ _, h.bw.setO (by omega) _ _, h.br.setO (by omega) _ _, bl_s h.bl _ _ (by omega)⟩
theorem Grw.start {x : TAd} {t : TbC} {q : Wv} {w W w2 : World} {u : Int} (h : Thr x t q w W [.slice none 0 0, .int .i64 0, .int .i64 0])
    (hb : Below (W.alloc (.cells #[.slice none 0 0, .int .i64 u, .int .i64 0] 36)).heap.size (W.alloc (.cells #[.slice none 0 0, .int .i64 u, .int .i64 0] 36)) w2) : Grw x t q w W w2 w2 none 0 [] u := by
  have h1 := (h.below (bl_a (Below.refl _ _) (.cells #[.slice none 0 0, .int .i64 u, .int .i64 0] 36))).below hb
  have h2 := (BK.new W [.slice none 0 0, .int .i64 u, .int .i64 0] 36).below hb
  exact ⟨h1.bt, h1.bw, h1.br, h2, ⟨World.ownsRow_nil _ _ _ _, fun _ => rfl⟩, h1.bl, h.br.lt, h2.lt, Nat.le_refl _, But.refl _ _ _, bl_then (bl_a (Below.refl _ _) _) hb⟩
theorem Grw.mid {x : TAd} {t : TbC} {q : Wv} {w W W2 wr w3 : World} {va : Option Addr} {vc : Nat} {l : List Int} {u : Int} {o : Obj} (h : Grw x t q w W W2 wr va vc l u)
    (hg : (wr.alloc o).grownBy w3 (Value.slice va l.length vc).ownBlock) : BK w3 W.heap.size [.slice va l.length vc, .int .i64 u, .int .i64 0] 36 :=
  (h.bp.alloc o).kept hg (fun j hj => by have := ow_lo h.row.1 j hj; have := h.hF; omega)
theorem Grw.add {x : TAd} {t : TbC} {q : Wv} {w W W2 wr w3 : World} {va : Option Addr} {vc : Nat} {l : List Int} {u : Int} {g3 cap3 : Nat} {c : Int} {o : Obj} (h : Grw x t q w W W2 wr va vc l u)
    (hg : (wr.alloc o).grownBy w3 (Value.slice va l.length vc).ownBlock) (hown : w3.ownsRow W2.heap.size 3 1 (.slice (some ⟨g3, 0, none⟩) (l.length + 1) cap3) (l.length + 1) (l.map (Value.int .i64) ++ [.int .i64 c])) :
    Grw x t q w W W2 (w3.setCell ⟨W.heap.size, 0, none⟩ (.slice (some ⟨g3, 0, none⟩) (l.length + 1) cap3)) (some ⟨g3, 0, none⟩) cap3 (l ++ [c]) u := by
  have hlo : ∀ j, (Value.slice va l.length vc).ownBlock = some j → W2.heap.size ≤ j := fun j hj => ow_lo h.row.1 j hj
  have hB := h.hB
  have hF := h.hF
  have hW := h.hW
  have hbg : Below W2.heap.size wr w3 := (((Below.refl wr.heap.size wr).alloc (Nat.le_refl _) o).mono hW).grown hg (by rw [World.size_alloc]; omega) hlo
  refine ⟨((h.bt.alloc o).kept hg (fun j hj => by have := hlo j hj; omega)).setO (by omega) _ _, ((h.bw.alloc o).kept hg (fun j hj => by have := hlo j hj; omega)).setO (by omega) _ _, ((h.br.alloc o).kept hg (fun j hj => by have := hlo j hj; omega)).setO (by omega) _ _, ?_, ⟨?_, fun e => by simp at e⟩, ?_, hB, hF, ?_, ?_, ?_⟩
  · have := (h.mid hg).set 0 (.slice (some ⟨g3, 0, none⟩) (l.length + 1) cap3)
    rw [List.length_append]
    simp only [List.length_cons, List.length_nil, Nat.zero_add]
    simpa only [List.set_cons_zero, List.set_cons_succ] using this
  · have := hown.kept (gr_set w3 W.heap.size 0 (.slice (some ⟨g3, 0, none⟩) (l.length + 1) cap3)) (.inr (fun e => by have := ow_lo hown _ e; omega))
    rw [List.length_append]
    simpa using this
  · exact bl_s (h.bl.trans (hbg.mono (by omega))) _ _ (by omega)
  · have := hbg.size; simp only [World.setCell, Array.size_modify]; omega
  · exact (h.bn.below hbg).set (List.mem_singleton.2 rfl) _ _
  · exact (h.bx.trans (hbg.mono (by omega))).setCell (p := ⟨W.heap.size, 0, none⟩) (Nat.le_refl _) _
set_option maxRecDepth 100000 in
set_option maxHeartbeats 8000000 in
theorem parseC (x : TAd) (t : TbC) (q : Wv) (d : WdC) (a : Option Addr) (ws : List TxC) (c : Nat) (many : Bool) (w : World) (ht : TabIs w x t) (hW : WOk w q d t.th.length) (hL : ∀ y, (reachV d t.th.length y).length ≤ 1000000)
    (hw : Wds w a ws) (hc : ws.length ≤ c) (hwl : ws.length ≤ 1000) :
    Calls Tryz.prog 11 #[tabV x t, worldV q, .slice a ws.length c, .bool many] w (RetPh w (parseN (oneW t q d) (visN d t.th.length) (reachV d t.th.length 1) (ws.map keyW) many)) := by
  have hnew := Thr.new x t q w [.slice none 0 0, .int .i64 0, .int .i64 0]
  obtain ⟨W0, hW0⟩ : ∃ W0, ((w.alloc (.cells (tabC x t).toArray 28)).alloc (.cells (worldC q).toArray 31)).alloc (.cells ([.slice none 0 0, .int .i64 0, .int .i64 0] : List Value).toArray 36) = W0 := ⟨_, rfl⟩
  rw [hW0] at hnew
  have HST := Lib.hid hnew
  have HIT := Lib.hid (fun w' (hb : Below w.heap.size w w') => itemC x t q d a ws c w' (ht.below hb) (hW.below hb) hL (hw.below hb) hc hwl)
  have HLI := Lib.hid (fun a' ws' c' w' (hb : Below w.heap.size w w') hw' hc' hwl' => listNC x t q d a' ws' c' w' (ht.below hb) (hW.below hb) hL hw' hc' hwl')
  have HAL := Lib.hid (fun w' (hb : Below w.heap.size w w') => allC x t q d t.th.length w' (hW.below hb) hL)
  have HUS : Hid (∀ ks, (oneW t q d ks).2.1 ≤ ks.length) := Lib.hid (fun ks => one_used t (seenTo (seesN d t.th.length) t.th.length) (isW t.th.length q.it && seesN d t.th.length q.it) q.it ks)
  have HWD := Lib.hid (fun w' (hb : Below w.heap.size w w') => hw.below hb)
  have HWL := Lib.hid hw.1
  have HKYS := Lib.hid (fun s w' (hs : s.length ≤ maxLen) => nounKey s w' hs)
  obtain ⟨i0, hi, hi1, hi2, hi3⟩ := info_parts info_intR
  generalize oneW t q d = one at *
  obtain ⟨PH, hPH⟩ : ∃ p, parseN one (visN d t.th.length) (reachV d t.th.length 1) (ws.map keyW) many = p := ⟨_, rfl⟩
  have hal : ∀ but, leftN (visN d t.th.length) (reachV d t.th.length 1) but = (allN (visN d t.th.length) (reachV d t.th.length 1)).filter (fun y => !but.contains y) := fun but => rfl
  have HALen : Hid ((allN (visN d t.th.length) (reachV d t.th.length 1)).length ≤ 1000000) := Lib.hid (all_len (vis_len hL) (hL 1))
  rw [hPH]
  generalize visN d t.th.length = vis at *
  generalize reachV d t.th.length 1 = car at *
  generalize allN vis car = AL at *
  have HPH := Lib.hid hPH
  have HAL2 := Lib.hid hal
  obtain ⟨m, hm⟩ : ∃ m, ws.length = m := ⟨_, rfl⟩
  have HWM := Lib.hid hm
  clear ht hW hL hw hnew hPH hal
  rw [hm] at hc hwl HIT ⊢
  clear hm
  have HSTt := Lib.hid HST.out.bt
  have HSTw := Lib.hid HST.out.bw
  obtain ⟨kt0, kt1, kt2, kt3, kt4, kt5, kt6, kt7, kt8, kt9, kt10, kt11, kt12, kt13, kt14⟩ := tab15 (HSTt.out)
  obtain ⟨b0, b1, b2, b3, b4, b5, b6, b7, b8, b9, bA, bB, bC⟩ := wd13 (HSTw.out)
  unfold tabV worldV at *
  go_enter Tryz.func11, Tryz.ntmps11
  unfold worldC at HIT HLI HAL hW0 ⊢
  unfold tabC at HIT HLI HAL hW0 ⊢
  cases many with
  | false =>
    have HPQ : Hid (PH = itemN (one (ws.map keyW))) := Lib.hid (by rw [← HPH.out]; rfl)
    clear HPH
    generalize itemN (one (ws.map keyW)) = p1 at *
    obtain ⟨l, u, r⟩ := p1
    have HPF : Hid (PH = ⟨l, u, r⟩) := HPQ
    clear HPQ
    go_wp2_with fail
    clear hW0
    refine (HIT.out _ HST.out.bl).mono ?_
    rintro e w1 ⟨pa, pc, rfl, hI, hb1, hfr⟩
    have HIR := Lib.hid hI
    have HFR : Hid (∀ b o, pa = some ⟨b, o, none⟩ → w.heap.size + 1 + 1 + 1 ≤ b) := Lib.hid (fun b o e => Nat.le_trans HST.out.br.lt (hfr b o e))
    clear hI hfr
    have HST1 := Lib.hid (HST.out.below hb1)
    clear kt0 kt1 kt2 kt3 kt4 kt5 kt6 kt7 kt8 kt9 kt10 kt11 kt12 kt13 kt14
    clear b0 b1 b2 b3 b4 b5 b6 b7 b8 b9 bA bB bC
    clear HSTt HSTw
    clear HST
    have HST := HST1
    clear HST1
    have HSTt := Lib.hid HST.out.bt
    have HSTw := Lib.hid HST.out.bw
    obtain ⟨kt0, kt1, kt2, kt3, kt4, kt5, kt6, kt7, kt8, kt9, kt10, kt11, kt12, kt13, kt14⟩ := tab15 (HSTt.out)
    obtain ⟨b0, b1, b2, b3, b4, b5, b6, b7, b8, b9, bA, bB, bC⟩ := wd13 (HSTw.out)
    clear hb1
    dsimp only at HIR ⊢
    -- world, address, capacity, list, used (Int), err (Int), used (Nat): what the result's cell comes to hold
    have HBR : Hid (BK w1 (w.heap.size + 1 + 1) [.slice none 0 0, .int .i64 0, .int .i64 0] 36) := Lib.hid HST.out.br
    have q0 := HBR.out.fr 0
    have q1 := HBR.out.fr 1
    have q2 := HBR.out.fr 2
    have n0 := HBR.out.cell 0
    have n1 := HBR.out.cell 1
    have n2 := HBR.out.cell 2
    simp only [List.getElem?_cons_zero, List.getElem?_cons_succ] at n0 n1 n2
    have hz2 : w.heap.size + 1 + 1 < (w1).heap.size := HBR.out.lt
    go_wp2_with fail
    generalize hWf : World.setCell _ ⟨w.heap.size + 1 + 1, 2, none⟩ _ = Wf
    have HFin : BK Wf (w.heap.size + 1 + 1) [.slice pa (l).length pc, .int .i64 (u : Int), .int .i64 r] 36 := by
      rw [← hWf]
      have := ((HBR.out.set 0 (.slice pa (l).length pc)).set 1 (.int .i64 (u : Int))).set 2 (.int .i64 r)
      simp only [List.set_cons_zero, List.set_cons_succ] at this
      exact this
    have HBT : But (w1).heap.size [w.heap.size + 1 + 1] w1 Wf := by
      rw [← hWf]
      exact (((But.refl _ _ _).set (List.mem_singleton.2 rfl) _ _).set (List.mem_singleton.2 rfl) _ _).set (List.mem_singleton.2 rfl) _ _
    have HLF : Below w.heap.size w Wf := by
      rw [← hWf]
      exact bl_s (bl_s (bl_s HST.out.bl _ _) _ _) _ _
    clear hWf
    have HIF := Lib.hid (ints_but HIR.out HBT (fun b o e hm => by have := HFR.out b o e; have := List.mem_singleton.1 hm; omega))
    have HLFh := Lib.hid HLF
    have HLO : Hid (∀ b o, (pa : Option Addr) = some ⟨b, o, none⟩ → w.heap.size ≤ b) := Lib.hid (fun b o e => by have := HFR.out b o e; omega)
    have v0 := HFin.cell 0
    have v1 := HFin.cell 1
    have v2 := HFin.cell 2
    simp only [List.getElem?_cons_zero, List.getElem?_cons_succ] at v0 v1 v2
    clear HLF HBT
    rw [HPF.out]
    refine bodyPost_ret (v := .agg #[.slice pa (l).length pc, .int .i64 (u : Int), .int .i64 r]) ?_ rfl ⟨pa, pc, (by first | (with_reducible rfl) | (show _ = Ending.returned (.agg #[.slice pa (l).length pc, .int .i64 ((2 + u : Nat) : Int), .int .i64 r]); rw [Int.natCast_add, ← HU.out]; rfl) | rfl), HIF.out, HLFh.out, HLO.out⟩
    simp [results, Tryz.results11, go_sem, v0, v1, v2]
  | true =>
    have HLW := Lib.hid (fun w' (hb : Below w.heap.size w w') => HLI.out a ws c w' hb (HWD.out w' hb) (by rw [HWM.out]; exact hc) (by rw [HWM.out]; exact hwl))
    rw [HWM.out] at HLW
    by_cases hm0 : m = 0
    · subst hm0
      have HPQ : Hid (PH = listN one (ws.map keyW) (0 + 1) 0 []) := Lib.hid (by
        have h0 : ws = [] := List.length_eq_zero_iff.1 HWM.out
        rw [← HPH.out, h0]; rfl)
      clear HPH
      generalize listN one (ws.map keyW) (0 + 1) 0 [] = p1 at *
      obtain ⟨l, u, r⟩ := p1
      have HPF : Hid (PH = ⟨l, u, r⟩) := HPQ
      clear HPQ
      go_wp2_with fail
      clear hW0
      refine (HLW.out _ HST.out.bl).mono ?_
      rintro e w7 ⟨pa, pc, rfl, hI, hb7, hfr⟩
      have HIR := Lib.hid hI
      have HFR : Hid (∀ b o, pa = some ⟨b, o, none⟩ → w.heap.size + 1 + 1 + 1 ≤ b) := Lib.hid (fun b o e => Nat.le_trans HST.out.br.lt (hfr b o e))
      clear hI hfr
      have HST1 := Lib.hid (HST.out.below hb7)
      clear kt0 kt1 kt2 kt3 kt4 kt5 kt6 kt7 kt8 kt9 kt10 kt11 kt12 kt13 kt14
      clear b0 b1 b2 b3 b4 b5 b6 b7 b8 b9 bA bB bC
      clear HSTt HSTw
      clear HST
      have HST := HST1
      clear HST1
      have HSTt := Lib.hid HST.out.bt
      have HSTw := Lib.hid HST.out.bw
      obtain ⟨kt0, kt1, kt2, kt3, kt4, kt5, kt6, kt7, kt8, kt9, kt10, kt11, kt12, kt13, kt14⟩ := tab15 (HSTt.out)
      obtain ⟨b0, b1, b2, b3, b4, b5, b6, b7, b8, b9, bA, bB, bC⟩ := wd13 (HSTw.out)
      clear hb7
      dsimp only at HIR ⊢
      -- world, address, capacity, list, used (Int), err (Int), used (Nat): what the result's cell comes to hold
      have HBR : Hid (BK w7 (w.heap.size + 1 + 1) [.slice none 0 0, .int .i64 0, .int .i64 0] 36) := Lib.hid HST.out.br
      have q0 := HBR.out.fr 0
      have q1 := HBR.out.fr 1
      have q2 := HBR.out.fr 2
      have n0 := HBR.out.cell 0
      have n1 := HBR.out.cell 1
      have n2 := HBR.out.cell 2
      simp only [List.getElem?_cons_zero, List.getElem?_cons_succ] at n0 n1 n2
      have hz2 : w.heap.size + 1 + 1 < (w7).heap.size := HBR.out.lt
      go_wp2_with fail
      generalize hWf : World.setCell _ ⟨w.heap.size + 1 + 1, 2, none⟩ _ = Wf
      have HFin : BK Wf (w.heap.size + 1 + 1) [.slice pa (l).length pc, .int .i64 (u : Int), .int .i64 r] 36 := by
        rw [← hWf]
        have := ((HBR.out.set 0 (.slice pa (l).length pc)).set 1 (.int .i64 (u : Int))).set 2 (.int .i64 r)
        simp only [List.set_cons_zero, List.set_cons_succ] at this
        exact this
      have HBT : But (w7).heap.size [w.heap.size + 1 + 1] w7 Wf := by
        rw [← hWf]
        exact (((But.refl _ _ _).set (List.mem_singleton.2 rfl) _ _).set (List.mem_singleton.2 rfl) _ _).set (List.mem_singleton.2 rfl) _ _
      have HLF : Below w.heap.size w Wf := by
        rw [← hWf]
        exact bl_s (bl_s (bl_s HST.out.bl _ _) _ _) _ _
      clear hWf
      have HIF := Lib.hid (ints_but HIR.out HBT (fun b o e hm => by have := HFR.out b o e; have := List.mem_singleton.1 hm; omega))
      have HLFh := Lib.hid HLF
      have HLO : Hid (∀ b o, (pa : Option Addr) = some ⟨b, o, none⟩ → w.heap.size ≤ b) := Lib.hid (fun b o e => by have := HFR.out b o e; omega)
      have v0 := HFin.cell 0
      have v1 := HFin.cell 1
      have v2 := HFin.cell 2
      simp only [List.getElem?_cons_zero, List.getElem?_cons_succ] at v0 v1 v2
      clear HLF HBT
      rw [HPF.out]
      refine bodyPost_ret (v := .agg #[.slice pa (l).length pc, .int .i64 (u : Int), .int .i64 r]) ?_ rfl ⟨pa, pc, (by first | (with_reducible rfl) | (show _ = Ending.returned (.agg #[.slice pa (l).length pc, .int .i64 ((2 + u : Nat) : Int), .int .i64 r]); rw [Int.natCast_add, ← HU.out]; rfl) | rfl), HIF.out, HLFh.out, HLO.out⟩
      simp [results, Tryz.results11, go_sem, v0, v1, v2]
    · have hm1 : 0 < m := by omega
      have hmne : ((m : Int) == 0) = false := by simp; omega
      have hwu : 0 < ws.length := by rw [HWM.out]; exact hm1
      obtain ⟨b, o, rfl, hb, hcs⟩ := (HWD.out _ HST.out.bl).2 hwu
      have hc0 := hcs 0 hwu
      obtain ⟨s0, hs0⟩ : ∃ s, ws[0] = s := ⟨_, rfl⟩
      rw [hs0] at hc0
      simp only [Nat.add_zero] at hc0
      have HS0 := Lib.hid hs0
      have HK0 := Lib.hid (fun w' => HKYS.out s0 w' (HWL.out s0 (by rw [← hs0]; exact List.getElem_mem hwu)))
      have HKE := Lib.hid (fun w' => HKYS.out [101, 118, 101, 114, 121, 116, 104, 105, 110, 103] w' (by decide))
      rw [show keyW [101, 118, 101, 114, 121, 116, 104, 105, 110, 103] = [101, 118, 101, 114, 121, 116, 104, 105, 110] from by decide] at HKE
      clear hcs hs0
      go_wp2_with fail
      clear hW0
      refine (HK0.out _).mono ?_
      rintro e w1 ⟨rfl, hb1⟩
      have HST1 := Lib.hid (HST.out.below hb1)
      clear kt0 kt1 kt2 kt3 kt4 kt5 kt6 kt7 kt8 kt9 kt10 kt11 kt12 kt13 kt14
      clear b0 b1 b2 b3 b4 b5 b6 b7 b8 b9 bA bB bC
      clear HSTt HSTw
      clear HST
      have HST := HST1
      clear HST1
      have HSTt := Lib.hid HST.out.bt
      have HSTw := Lib.hid HST.out.bw
      obtain ⟨kt0, kt1, kt2, kt3, kt4, kt5, kt6, kt7, kt8, kt9, kt10, kt11, kt12, kt13, kt14⟩ := tab15 (HSTt.out)
      obtain ⟨b0, b1, b2, b3, b4, b5, b6, b7, b8, b9, bA, bB, bC⟩ := wd13 (HSTw.out)
      clear hb1 hc0 HK0
      go_wp2_with fail
      refine (HKE.out _).mono ?_
      rintro e w2 ⟨rfl, hb2⟩
      have HST1 := Lib.hid (HST.out.below hb2)
      clear kt0 kt1 kt2 kt3 kt4 kt5 kt6 kt7 kt8 kt9 kt10 kt11 kt12 kt13 kt14
      clear b0 b1 b2 b3 b4 b5 b6 b7 b8 b9 bA bB bC
      clear HSTt HSTw
      clear HST
      have HST := HST1
      clear HST1
      have HSTt := Lib.hid HST.out.bt
      have HSTw := Lib.hid HST.out.bw
      obtain ⟨kt0, kt1, kt2, kt3, kt4, kt5, kt6, kt7, kt8, kt9, kt10, kt11, kt12, kt13, kt14⟩ := tab15 (HSTt.out)
      obtain ⟨b0, b1, b2, b3, b4, b5, b6, b7, b8, b9, bA, bB, bC⟩ := wd13 (HSTw.out)
      clear hb2 HKE
      have HSTa := Lib.hid (HST.out.below (bl_a (Below.refl _ _) (.cells #[.string ⟨#[97, 108, 108]⟩, .string ⟨#[101, 118, 101, 114, 121, 116, 104, 105, 110]⟩] 9)))
      have HAM : Hid (Calls Tryz.prog 27 #[.string ⟨(keyW s0).toArray⟩, .slice (some ⟨w2.heap.size, 0, none⟩) 2 2] (w2.alloc (.cells #[.string ⟨#[97, 108, 108]⟩, .string ⟨#[101, 118, 101, 114, 121, 116, 104, 105, 110]⟩] 9)) fun e w'' => e = .returned (.bool (allL.contains (keyW s0))) ∧ (w2.alloc (.cells #[.string ⟨#[97, 108, 108]⟩, .string ⟨#[101, 118, 101, 114, 121, 116, 104, 105, 110]⟩] 9)) = w'') := Lib.hid (amongC (keyW s0) (some ⟨w2.heap.size, 0, none⟩) allL 2 _ (wds_lit w2 allL 9 (by decide)) (by decide))
      have HKS1 : Hid (m = 1 → ws.map keyW = [keyW s0]) := Lib.hid (fun h => by rw [← HS0.out]; exact one_key (by rw [HWM.out]; exact h))
      have HKS0 : Hid (∃ r, ws.map keyW = keyW s0 :: r) := Lib.hid (by rw [← HS0.out]; exact head_key hwu)
      obtain ⟨ca, hca⟩ : ∃ r, allL.contains (keyW s0) = r := ⟨_, rfl⟩
      rw [hca] at HAM
      have HCA := Lib.hid hca
      obtain ⟨k0, hk0⟩ : ∃ k, keyW s0 = k := ⟨_, rfl⟩
      rw [hk0] at HAM HKS1 HKS0 HCA
      have HK0 := Lib.hid hk0
      rw [hk0]
      clear hca hk0
      clear kt0 kt1 kt2 kt3 kt4 kt5 kt6 kt7 kt8 kt9 kt10 kt11 kt12 kt13 kt14
      clear b0 b1 b2 b3 b4 b5 b6 b7 b8 b9 bA bB bC
      clear HSTt HSTw
      go_wp2_with fail
      refine HAM.out.mono ?_
      rintro e w3 ⟨rfl, he3⟩
      rw [he3] at HSTa
      clear he3 HST HAM
      have HST := HSTa
      clear HSTa
      have HSTt := Lib.hid HST.out.bt
      have HSTw := Lib.hid HST.out.bw
      obtain ⟨kt0, kt1, kt2, kt3, kt4, kt5, kt6, kt7, kt8, kt9, kt10, kt11, kt12, kt13, kt14⟩ := tab15 (HSTt.out)
      obtain ⟨b0, b1, b2, b3, b4, b5, b6, b7, b8, b9, bA, bB, bC⟩ := wd13 (HSTw.out)
      cases ca with
      | false =>
        have HPQ : Hid (PH = listN one (ws.map keyW) (m + 1) 0 []) := Lib.hid (by
          obtain ⟨r, hr⟩ := HKS0.out
          have hl : (k0 :: r).length = m := by rw [← hr, List.length_map, HWM.out]
          rw [← HPH.out, hr, ← hl]
          simp only [parseN, manyN, if_true, HCA.out, Bool.false_eq_true, if_false])
        clear HPH
        generalize listN one (ws.map keyW) (m + 1) 0 [] = p1 at *
        obtain ⟨l, u, r⟩ := p1
        have HPF : Hid (PH = ⟨l, u, r⟩) := HPQ
        clear HPQ
        go_wp2_with fail
        refine (HLW.out _ HST.out.bl).mono ?_
        rintro e w7 ⟨pa, pc, rfl, hI, hb7, hfr⟩
        have HIR := Lib.hid hI
        have HFR : Hid (∀ b o, pa = some ⟨b, o, none⟩ → w.heap.size + 1 + 1 + 1 ≤ b) := Lib.hid (fun b o e => Nat.le_trans HST.out.br.lt (hfr b o e))
        clear hI hfr
        have HST1 := Lib.hid (HST.out.below hb7)
        clear kt0 kt1 kt2 kt3 kt4 kt5 kt6 kt7 kt8 kt9 kt10 kt11 kt12 kt13 kt14
        clear b0 b1 b2 b3 b4 b5 b6 b7 b8 b9 bA bB bC
        clear HSTt HSTw
        clear HST
        have HST := HST1
        clear HST1
        have HSTt := Lib.hid HST.out.bt
        have HSTw := Lib.hid HST.out.bw
        obtain ⟨kt0, kt1, kt2, kt3, kt4, kt5, kt6, kt7, kt8, kt9, kt10, kt11, kt12, kt13, kt14⟩ := tab15 (HSTt.out)
        obtain ⟨b0, b1, b2, b3, b4, b5, b6, b7, b8, b9, bA, bB, bC⟩ := wd13 (HSTw.out)
        clear hb7
        dsimp only at HIR ⊢
        -- world, address, capacity, list, used (Int), err (Int), used (Nat): what the result's cell comes to hold
        have HBR : Hid (BK w7 (w.heap.size + 1 + 1) [.slice none 0 0, .int .i64 0, .int .i64 0] 36) := Lib.hid HST.out.br
        have q0 := HBR.out.fr 0
        have q1 := HBR.out.fr 1
        have q2 := HBR.out.fr 2
        have n0 := HBR.out.cell 0
        have n1 := HBR.out.cell 1
        have n2 := HBR.out.cell 2
        simp only [List.getElem?_cons_zero, List.getElem?_cons_succ] at n0 n1 n2
        have hz2 : w.heap.size + 1 + 1 < (w7).heap.size := HBR.out.lt
        go_wp2_with fail
        generalize hWf : World.setCell _ ⟨w.heap.size + 1 + 1, 2, none⟩ _ = Wf
        have HFin : BK Wf (w.heap.size + 1 + 1) [.slice pa (l).length pc, .int .i64 (u : Int), .int .i64 r] 36 := by
          rw [← hWf]
          have := ((HBR.out.set 0 (.slice pa (l).length pc)).set 1 (.int .i64 (u : Int))).set 2 (.int .i64 r)
          simp only [List.set_cons_zero, List.set_cons_succ] at this
          exact this
        have HBT : But (w7).heap.size [w.heap.size + 1 + 1] w7 Wf := by
          rw [← hWf]
          exact (((But.refl _ _ _).set (List.mem_singleton.2 rfl) _ _).set (List.mem_singleton.2 rfl) _ _).set (List.mem_singleton.2 rfl) _ _
        have HLF : Below w.heap.size w Wf := by
          rw [← hWf]
          exact bl_s (bl_s (bl_s HST.out.bl _ _) _ _) _ _
        clear hWf
        have HIF := Lib.hid (ints_but HIR.out HBT (fun b o e hm => by have := HFR.out b o e; have := List.mem_singleton.1 hm; omega))
        have HLFh := Lib.hid HLF
        have HLO : Hid (∀ b o, (pa : Option Addr) = some ⟨b, o, none⟩ → w.heap.size ≤ b) := Lib.hid (fun b o e => by have := HFR.out b o e; omega)
        have v0 := HFin.cell 0
        have v1 := HFin.cell 1
        have v2 := HFin.cell 2
        simp only [List.getElem?_cons_zero, List.getElem?_cons_succ] at v0 v1 v2
        clear HLF HBT
        rw [HPF.out]
        refine bodyPost_ret (v := .agg #[.slice pa (l).length pc, .int .i64 (u : Int), .int .i64 r]) ?_ rfl ⟨pa, pc, (by first | (with_reducible rfl) | (show _ = Ending.returned (.agg #[.slice pa (l).length pc, .int .i64 ((2 + u : Nat) : Int), .int .i64 r]); rw [Int.natCast_add, ← HU.out]; rfl) | rfl), HIF.out, HLFh.out, HLO.out⟩
        simp [results, Tryz.results11, go_sem, v0, v1, v2]
      | true =>
        by_cases hm2 : m = 1
        · subst hm2
          have HPX : Hid (PH = if leftN vis car [] = [] then ⟨[], 1, 11⟩ else ⟨leftN vis car [], 1, 0⟩) := Lib.hid (by
            rw [← HPH.out, HKS1.out rfl]
            simp only [parseN, manyN, if_true, HCA.out])
          clear HPH
          have HIB : Hid (Ints w3 (.slice none 0 0) []) := Lib.hid (ints_nil w3 0 none)
          -- world w3, used (Nat) 1, but: address none, length 0, capacity 0, list ([] : List Int); used (Int) 1
          as_aux_lemma =>
            obtain ⟨p, hp⟩ : ∃ p : Int → Bool, (fun y => !(([] : List Int)).contains y) = p := ⟨_, rfl⟩
            have HP : Hid (∀ y, p y = !(([] : List Int)).contains y) := Lib.hid (fun y => by rw [← hp])
            have HPY : Hid (PH = if AL.filter p = [] then ⟨[], 1, 11⟩ else ⟨AL.filter p, 1, 0⟩) := Lib.hid (by have := HPX.out; rw [HAL2.out, hp] at this; exact this)
            have HINB := Lib.hid (fun y w' (hb : Below (w3).heap.size w3 w') => inC2 none ([] : List Int) 0 0 y w' (HIB.out.below hb) rfl)
            clear hp HPX HIB
            go_upto_region 14 with (fail)
            generalize hW1 : World.alloc w3 _ = W1
            have HG1 : Hid (∀ w2, Below W1.heap.size W1 w2 → Grw x t q w w3 w2 w2 none 0 [] 1) := Lib.hid (fun w2 hb => by rw [← hW1] at hb; exact Grw.start HST.out hb)
            have HST1 : Hid (Thr x t q w W1 [.slice none 0 0, .int .i64 0, .int .i64 0]) := Lib.hid (by rw [← hW1]; exact HST.out.below (bl_a (Below.refl _ _) _))
            clear kt0 kt1 kt2 kt3 kt4 kt5 kt6 kt7 kt8 kt9 kt10 kt11 kt12 kt13 kt14
            clear b0 b1 b2 b3 b4 b5 b6 b7 b8 b9 bA bB bC
            clear HSTt HSTw
            clear HST hW1
            have HST := HST1
            clear HST1
            have HSTt := Lib.hid HST.out.bt
            have HSTw := Lib.hid HST.out.bw
            obtain ⟨kt0, kt1, kt2, kt3, kt4, kt5, kt6, kt7, kt8, kt9, kt10, kt11, kt12, kt13, kt14⟩ := tab15 (HSTt.out)
            obtain ⟨b0, b1, b2, b3, b4, b5, b6, b7, b8, b9, bA, bB, bC⟩ := wd13 (HSTw.out)
            go_wp2_with fail
            refine (HAL.out _ HST.out.bl).mono ?_
            rintro e w2 ⟨aa, ac, rfl, hI2, hb2, hf2⟩
            have HG2 := Lib.hid (HG1.out w2 hb2)
            have HIA := Lib.hid hI2
            have HFA : Hid (∀ b o, aa = some ⟨b, o, none⟩ → b ∉ [(w3).heap.size]) := Lib.hid (fun b o e hm => by have := hf2 b o e; have := HG2.out.hB; have := (HG1.out W1 (Below.refl _ _)).hF; have := List.mem_singleton.1 hm; omega)
            clear kt0 kt1 kt2 kt3 kt4 kt5 kt6 kt7 kt8 kt9 kt10 kt11 kt12 kt13 kt14
            clear b0 b1 b2 b3 b4 b5 b6 b7 b8 b9 bA bB bC
            clear HSTt HSTw
            clear HST hI2 hb2 hf2 HG1
            obtain ⟨n, hn⟩ : ∃ n, AL.length = n := ⟨_, rfl⟩
            have hnm := HALen.out
            have HNL := Lib.hid hn
            rw [hn] at hnm ⊢
            clear hn
            go_wp2_with fail
            go_loopw [72] (fun iv wr => ∃ (i : Nat) (l2 : List Int) (va : Option Addr) (vc : Nat), iv = .int .i64 i ∧ i ≤ n ∧ l2.length ≤ i ∧ Hid (l2 = (AL.take i).filter p) ∧ Hid (Grw x t q w w3 w2 wr va vc l2 1)) (fun iv _ => n - (intOf iv).toNat)
            case atStart => exact ⟨0, [], none, 0, rfl, Nat.zero_le _, Nat.le_refl _, Lib.hid rfl, HG2⟩
            case round =>
              obtain ⟨i, l2, va, vc, rfl, hil, hll, HL2, HGr⟩ := hrel
              have HIAr0 := ints_but HIA.out HGr.out.bn HFA.out
              rw [HNL.out] at HIAr0
              have HIAr := Lib.hid HIAr0
              clear HIAr0
              have HGp := Lib.hid (HGr.out).bp
              have p0 := HGp.out.cell 0
              have p1 := HGp.out.cell 1
              have p2 := HGp.out.cell 2
              have g0 := HGp.out.fr 0
              have g1 := HGp.out.fr 1
              have g2 := HGp.out.fr 2
              simp only [List.getElem?_cons_zero, List.getElem?_cons_succ] at p0 p1 p2
              have hzw : (w3).heap.size < wr.heap.size := HGp.out.lt
              have hzw2 : w2.heap.size ≤ wr.heap.size := HGr.out.hW
              by_cases hlt : i < n
              · have hiL : i < AL.length := by rw [HNL.out]; exact hlt
                obtain ⟨b2, o2, hae, hb2, hcs2⟩ := HIAr.out.at2 (by omega)
                subst hae
                have hci := hcs2 i hiL
                have HFt := Lib.hid (filter_takeN (p := p) hiL)
                generalize AL[i] = y at *
                clear hcs2 hiL
                have hINc := HINB.out y wr HGr.out.bx
                have hpy := HP.out y
                obtain ⟨cy, hcy⟩ : ∃ r, (([] : List Int)).contains y = r := ⟨_, rfl⟩
                rw [hcy] at hINc hpy
                clear hcy
                have HPYY := Lib.hid hpy
                clear hpy
                go_wp2_with fail
                refine hINc.mono ?_
                rintro e w3 ⟨rfl, rfl⟩
                clear hINc
                cases cy with
                | true =>
                  have HE : Hid ((AL.take (i + 1)).filter p = (AL.take i).filter p) := Lib.hid (by rw [HFt.out, HPYY.out]; simp)
                  go_wp2_with fail
                  go_roundw
                  case rel => exact ⟨i + 1, l2, va, vc, by go_num, by omega, by omega, Lib.hid (by rw [HE.out]; exact HL2.out), HGr⟩
                  case measure => simp [intOf]; omega
                | false =>
                  have HE : Hid ((AL.take (i + 1)).filter p = (AL.take i).filter p ++ [y]) := Lib.hid (by rw [HFt.out, HPYY.out]; simp)
                  have HWN := Lib.hid (HGr.out.row.1.alloc (.cells #[.int .i64 y] 3))
                  go_wp2_with (at_builtin; refine wpList_append_own _ rfl _ _ 23 rfl w2.heap.size 3 i0 (.int .i64 0) 1 8 Tryz.underlying23 hi hi1 hi2 hi3 rfl (by decide) _ l2.length (l2.map (Value.int .i64)) rfl HWN.out ⟨wr.heap.size, 0, none⟩ 1 1 [.int .i64 y] rfl rfl (int_newS _ _ _) (ow_one rfl) (by unfold maxLen; omega) (by omega) (by simp; omega) ?_; intro v3 w3 hown3 hgrow3 _; obtain ⟨g3, cap3, rfl⟩ := ownsRow_succ hown3; have HG3 := Lib.hid (HGr.out.add hgrow3 hown3); have HBX3 := Lib.hid (HGr.out.mid hgrow3); clear p0 p1 p2 g0 g1 g2; have p0 := HBX3.out.cell 0; have p1 := HBX3.out.cell 1; have p2 := HBX3.out.cell 2; have g0 := HBX3.out.fr 0; have g1 := HBX3.out.fr 1; have g2 := HBX3.out.fr 2; simp only [List.getElem?_cons_zero, List.getElem?_cons_succ] at p0 p1 p2; clear hown3 hgrow3)
                  go_roundw
                  case rel => exact ⟨i + 1, l2 ++ [y], some ⟨g3, 0, none⟩, cap3, by go_num, by omega, by rw [List.length_append, List.length_singleton]; omega, Lib.hid (by rw [HE.out, ← HL2.out]), HG3⟩
                  case measure => simp [intOf]; omega
              · have HE : Hid (AL.filter p = l2) := Lib.hid (by rw [HL2.out, List.take_of_length_le (by rw [HNL.out]; omega)])
                by_cases hl0 : l2.length = 0
                · obtain rfl : l2 = [] := List.length_eq_zero_iff.1 hl0
                  have HPF : Hid (PH = ⟨[], 1, 11⟩) := Lib.hid (by rw [HPY.out, if_pos HE.out])
                  clear hl0
                  simp only [List.length_nil] at p0
                  obtain ⟨W9, hW9⟩ : ∃ W9, wr.setCell ⟨(w3).heap.size, 2, none⟩ (.int .i64 11) = W9 := ⟨_, rfl⟩
                  have HST : Hid (Thr x t q w W9 [.slice none 0 0, .int .i64 0, .int .i64 0]) := Lib.hid (by rw [← hW9]; exact HGr.out.set9 _)
                  have HBP9 : Hid (BK W9 (w3).heap.size [.slice va 0 vc, .int .i64 1, .int .i64 11] 36) := Lib.hid (by
                    rw [← hW9]
                    have := HGr.out.bp.set 2 (.int .i64 11)
                    simpa only [List.set_cons_zero, List.set_cons_succ, List.length_nil] using this)
                  have z0 := HBP9.out.cell 0
                  have z1 := HBP9.out.cell 1
                  have z2 := HBP9.out.cell 2
                  simp only [List.getElem?_cons_zero, List.getElem?_cons_succ] at z0 z1 z2
                  have HIR : Hid (Ints W9 (.slice va ([] : List Int).length vc) []) := Lib.hid (ints_nil W9 vc va)
                  have HFR : Hid (∀ b o, va = some ⟨b, o, none⟩ → w.heap.size + 1 + 1 + 1 ≤ b) := Lib.hid (fun b o e => by have := ow_ge HGr.out.row.1 b o e; have := HGr.out.hB; have := HGr.out.hF; omega)
                  have hz9 : (w3).heap.size < W9.heap.size := HBP9.out.lt
                  have hzne : ¬ (w.heap.size + 1 + 1 = (w3).heap.size) := by have := HGr.out.hB; omega
                  -- world, address, capacity, list, used (Int), err (Int), used (Nat): what the result's cell comes to hold
                  have HBR : Hid (BK W9 (w.heap.size + 1 + 1) [.slice none 0 0, .int .i64 0, .int .i64 0] 36) := Lib.hid HST.out.br
                  have q0 := HBR.out.fr 0
                  have q1 := HBR.out.fr 1
                  have q2 := HBR.out.fr 2
                  have n0 := HBR.out.cell 0
                  have n1 := HBR.out.cell 1
                  have n2 := HBR.out.cell 2
                  simp only [List.getElem?_cons_zero, List.getElem?_cons_succ] at n0 n1 n2
                  have hz2 : w.heap.size + 1 + 1 < (W9).heap.size := HBR.out.lt
                  repeat ((fail_if_success (with_reducible refine post_mark ?_)); go_step)
                  generalize hWf : World.setCell _ ⟨w.heap.size + 1 + 1, 2, none⟩ _ = Wf
                  have HFin : BK Wf (w.heap.size + 1 + 1) [.slice va (([] : List Int)).length vc, .int .i64 1, .int .i64 11] 36 := by
                    rw [← hWf]
                    have := ((HBR.out.set 0 (.slice va (([] : List Int)).length vc)).set 1 (.int .i64 1)).set 2 (.int .i64 11)
                    simp only [List.set_cons_zero, List.set_cons_succ] at this
                    exact this
                  have HBT : But (W9).heap.size [w.heap.size + 1 + 1] W9 Wf := by
                    rw [← hWf]
                    exact (((But.refl _ _ _).set (List.mem_singleton.2 rfl) _ _).set (List.mem_singleton.2 rfl) _ _).set (List.mem_singleton.2 rfl) _ _
                  have HLF : Below w.heap.size w Wf := by
                    rw [← hWf]
                    exact bl_s (bl_s (bl_s HST.out.bl _ _) _ _) _ _
                  clear hWf
                  have HIF := Lib.hid (ints_but HIR.out HBT (fun b o e hm => by have := HFR.out b o e; have := List.mem_singleton.1 hm; omega))
                  have HLFh := Lib.hid HLF
                  have HLO : Hid (∀ b o, (va : Option Addr) = some ⟨b, o, none⟩ → w.heap.size ≤ b) := Lib.hid (fun b o e => by have := HFR.out b o e; omega)
                  have v0 := HFin.cell 0
                  have v1 := HFin.cell 1
                  have v2 := HFin.cell 2
                  simp only [List.getElem?_cons_zero, List.getElem?_cons_succ] at v0 v1 v2
                  clear HLF HBT
                  rw [HPF.out]
                  refine bodyPost_ret (v := .agg #[.slice va (([] : List Int)).length vc, .int .i64 1, .int .i64 11]) ?_ rfl ⟨va, vc, (by first | (with_reducible rfl) | (show _ = Ending.returned (.agg #[.slice va (([] : List Int)).length vc, .int .i64 ((2 + u : Nat) : Int), .int .i64 11]); rw [Int.natCast_add, ← HU.out]; rfl) | rfl), HIF.out, HLFh.out, HLO.out⟩
                  simp [results, Tryz.results11, go_sem, v0, v1, v2]
                · have HPF : Hid (PH = ⟨l2, 1, 0⟩) := Lib.hid (by rw [HPY.out, HE.out, if_neg (fun e => hl0 (by rw [e]; rfl))])
                  have HST : Hid (Thr x t q w wr [.slice none 0 0, .int .i64 0, .int .i64 0]) := Lib.hid HGr.out.thr
                  have HIR : Hid (Ints wr (.slice va l2.length vc) l2) := Lib.hid (HGr.out.row.ints (by unfold maxLen; omega))
                  have HFR : Hid (∀ b o, va = some ⟨b, o, none⟩ → w.heap.size + 1 + 1 + 1 ≤ b) := Lib.hid (fun b o e => by have := ow_ge HGr.out.row.1 b o e; have := HGr.out.hB; have := HGr.out.hF; omega)
                  have hzne : ¬ (w.heap.size + 1 + 1 = (w3).heap.size) := by have := HGr.out.hB; omega
                  have hl0b : ((l2.length : Int) == 0) = false := by simpa using hl0
                  -- world, address, capacity, list, used (Int), err (Int), used (Nat): what the result's cell comes to hold
                  have HBR : Hid (BK wr (w.heap.size + 1 + 1) [.slice none 0 0, .int .i64 0, .int .i64 0] 36) := Lib.hid HST.out.br
                  have q0 := HBR.out.fr 0
                  have q1 := HBR.out.fr 1
                  have q2 := HBR.out.fr 2
                  have n0 := HBR.out.cell 0
                  have n1 := HBR.out.cell 1
                  have n2 := HBR.out.cell 2
                  simp only [List.getElem?_cons_zero, List.getElem?_cons_succ] at n0 n1 n2
                  have hz2 : w.heap.size + 1 + 1 < (wr).heap.size := HBR.out.lt
                  repeat ((fail_if_success (with_reducible refine post_mark ?_)); go_step)
                  generalize hWf : World.setCell _ ⟨w.heap.size + 1 + 1, 2, none⟩ _ = Wf
                  have HFin : BK Wf (w.heap.size + 1 + 1) [.slice va (l2).length vc, .int .i64 1, .int .i64 0] 36 := by
                    rw [← hWf]
                    have := ((HBR.out.set 0 (.slice va (l2).length vc)).set 1 (.int .i64 1)).set 2 (.int .i64 0)
                    simp only [List.set_cons_zero, List.set_cons_succ] at this
                    exact this
                  have HBT : But (wr).heap.size [w.heap.size + 1 + 1] wr Wf := by
                    rw [← hWf]
                    exact (((But.refl _ _ _).set (List.mem_singleton.2 rfl) _ _).set (List.mem_singleton.2 rfl) _ _).set (List.mem_singleton.2 rfl) _ _
                  have HLF : Below w.heap.size w Wf := by
                    rw [← hWf]
                    exact bl_s (bl_s (bl_s HST.out.bl _ _) _ _) _ _
                  clear hWf
                  have HIF := Lib.hid (ints_but HIR.out HBT (fun b o e hm => by have := HFR.out b o e; have := List.mem_singleton.1 hm; omega))
                  have HLFh := Lib.hid HLF
                  have HLO : Hid (∀ b o, (va : Option Addr) = some ⟨b, o, none⟩ → w.heap.size ≤ b) := Lib.hid (fun b o e => by have := HFR.out b o e; omega)
                  have v0 := HFin.cell 0
                  have v1 := HFin.cell 1
                  have v2 := HFin.cell 2
                  simp only [List.getElem?_cons_zero, List.getElem?_cons_succ] at v0 v1 v2
                  clear HLF HBT
                  rw [HPF.out]
                  refine bodyPost_ret (v := .agg #[.slice va (l2).length vc, .int .i64 1, .int .i64 0]) ?_ rfl ⟨va, vc, (by first | (with_reducible rfl) | (show _ = Ending.returned (.agg #[.slice va (l2).length vc, .int .i64 ((2 + u : Nat) : Int), .int .i64 0]); rw [Int.natCast_add, ← HU.out]; rfl) | rfl), HIF.out, HLFh.out, HLO.out⟩
                  simp [results, Tryz.results11, go_sem, v0, v1, v2]
        · have hm3 : (1 : Int) < (m : Int) := by omega
          have hwu1 : 1 < ws.length := by rw [HWM.out]; omega
          obtain ⟨b', o', hbe, hb', hcs⟩ := (HWD.out _ HST.out.bl).2 hwu
          simp only [Option.some.injEq, Addr.mk.injEq, and_true] at hbe
          obtain ⟨rfl, rfl⟩ := hbe
          have hc1 := hcs 1 hwu1
          obtain ⟨s1, hs1⟩ : ∃ s, ws[1] = s := ⟨_, rfl⟩
          rw [hs1] at hc1
          have HKY1 := Lib.hid (fun w' => HKYS.out s1 w' (HWL.out s1 (by rw [← hs1]; exact List.getElem_mem hwu1)))
          have HKS2 : Hid (ws.map keyW = k0 :: keyW s1 :: (ws.drop 2).map keyW) := Lib.hid (by rw [← HK0.out, ← HS0.out, ← hs1]; exact two_keys hwu1)
          clear hcs hs1
          go_wp2_with fail
          refine (HKY1.out _).mono ?_
          rintro e w4 ⟨rfl, hb4⟩
          have HST1 := Lib.hid (HST.out.below hb4)
          clear kt0 kt1 kt2 kt3 kt4 kt5 kt6 kt7 kt8 kt9 kt10 kt11 kt12 kt13 kt14
          clear b0 b1 b2 b3 b4 b5 b6 b7 b8 b9 bA bB bC
          clear HSTt HSTw
          clear HST
          have HST := HST1
          clear HST1
          have HSTt := Lib.hid HST.out.bt
          have HSTw := Lib.hid HST.out.bw
          obtain ⟨kt0, kt1, kt2, kt3, kt4, kt5, kt6, kt7, kt8, kt9, kt10, kt11, kt12, kt13, kt14⟩ := tab15 (HSTt.out)
          obtain ⟨b0, b1, b2, b3, b4, b5, b6, b7, b8, b9, bA, bB, bC⟩ := wd13 (HSTw.out)
          clear hb4 hc1 HKY1
          have HSTa := Lib.hid (HST.out.below (bl_a (Below.refl _ _) (.cells #[.string ⟨#[101, 120, 99, 101, 112, 116]⟩, .string ⟨#[98, 117, 116]⟩] 9)))
          have HAM : Hid (Calls Tryz.prog 27 #[.string ⟨(keyW s1).toArray⟩, .slice (some ⟨w4.heap.size, 0, none⟩) 2 2] (w4.alloc (.cells #[.string ⟨#[101, 120, 99, 101, 112, 116]⟩, .string ⟨#[98, 117, 116]⟩] 9)) fun e w'' => e = .returned (.bool (butL.contains (keyW s1))) ∧ (w4.alloc (.cells #[.string ⟨#[101, 120, 99, 101, 112, 116]⟩, .string ⟨#[98, 117, 116]⟩] 9)) = w'') := Lib.hid (amongC (keyW s1) (some ⟨w4.heap.size, 0, none⟩) butL 2 _ (wds_lit w4 butL 9 (by decide)) (by decide))
          obtain ⟨cb, hcb⟩ : ∃ r, butL.contains (keyW s1) = r := ⟨_, rfl⟩
          rw [hcb] at HAM
          have HCB := Lib.hid hcb
          generalize keyW s1 = k1 at HAM HKS2 HCB ⊢
          clear hcb
          clear kt0 kt1 kt2 kt3 kt4 kt5 kt6 kt7 kt8 kt9 kt10 kt11 kt12 kt13 kt14
          clear b0 b1 b2 b3 b4 b5 b6 b7 b8 b9 bA bB bC
          clear HSTt HSTw
          go_wp2_with fail
          refine HAM.out.mono ?_
          rintro e w5 ⟨rfl, he5⟩
          rw [he5] at HSTa
          clear he5 HST HAM
          have HST := HSTa
          clear HSTa
          have HSTt := Lib.hid HST.out.bt
          have HSTw := Lib.hid HST.out.bw
          obtain ⟨kt0, kt1, kt2, kt3, kt4, kt5, kt6, kt7, kt8, kt9, kt10, kt11, kt12, kt13, kt14⟩ := tab15 (HSTt.out)
          obtain ⟨b0, b1, b2, b3, b4, b5, b6, b7, b8, b9, bA, bB, bC⟩ := wd13 (HSTw.out)
          cases cb with
          | false =>
            have HPX : Hid (PH = if leftN vis car [] = [] then ⟨[], 1, 11⟩ else ⟨leftN vis car [], 1, 0⟩) := Lib.hid (by
              rw [← HPH.out, HKS2.out]
              simp only [parseN, manyN, if_true, HCA.out, HCB.out, Bool.false_eq_true, if_false])
            clear HPH
            have HIB : Hid (Ints w5 (.slice none 0 0) []) := Lib.hid (ints_nil w5 0 none)
            -- world w5, used (Nat) 1, but: address none, length 0, capacity 0, list ([] : List Int); used (Int) 1
            as_aux_lemma =>
              obtain ⟨p, hp⟩ : ∃ p : Int → Bool, (fun y => !(([] : List Int)).contains y) = p := ⟨_, rfl⟩
              have HP : Hid (∀ y, p y = !(([] : List Int)).contains y) := Lib.hid (fun y => by rw [← hp])
              have HPY : Hid (PH = if AL.filter p = [] then ⟨[], 1, 11⟩ else ⟨AL.filter p, 1, 0⟩) := Lib.hid (by have := HPX.out; rw [HAL2.out, hp] at this; exact this)
              have HINB := Lib.hid (fun y w' (hb : Below (w5).heap.size w5 w') => inC2 none ([] : List Int) 0 0 y w' (HIB.out.below hb) rfl)
              clear hp HPX HIB
              go_upto_region 14 with (fail)
              generalize hW1 : World.alloc w5 _ = W1
              have HG1 : Hid (∀ w2, Below W1.heap.size W1 w2 → Grw x t q w w5 w2 w2 none 0 [] 1) := Lib.hid (fun w2 hb => by rw [← hW1] at hb; exact Grw.start HST.out hb)
              have HST1 : Hid (Thr x t q w W1 [.slice none 0 0, .int .i64 0, .int .i64 0]) := Lib.hid (by rw [← hW1]; exact HST.out.below (bl_a (Below.refl _ _) _))
              clear kt0 kt1 kt2 kt3 kt4 kt5 kt6 kt7 kt8 kt9 kt10 kt11 kt12 kt13 kt14
              clear b0 b1 b2 b3 b4 b5 b6 b7 b8 b9 bA bB bC
              clear HSTt HSTw
              clear HST hW1
              have HST := HST1
              clear HST1
              have HSTt := Lib.hid HST.out.bt
              have HSTw := Lib.hid HST.out.bw
              obtain ⟨kt0, kt1, kt2, kt3, kt4, kt5, kt6, kt7, kt8, kt9, kt10, kt11, kt12, kt13, kt14⟩ := tab15 (HSTt.out)
              obtain ⟨b0, b1, b2, b3, b4, b5, b6, b7, b8, b9, bA, bB, bC⟩ := wd13 (HSTw.out)
              go_wp2_with fail
              refine (HAL.out _ HST.out.bl).mono ?_
              rintro e w2 ⟨aa, ac, rfl, hI2, hb2, hf2⟩
              have HG2 := Lib.hid (HG1.out w2 hb2)
              have HIA := Lib.hid hI2
              have HFA : Hid (∀ b o, aa = some ⟨b, o, none⟩ → b ∉ [(w5).heap.size]) := Lib.hid (fun b o e hm => by have := hf2 b o e; have := HG2.out.hB; have := (HG1.out W1 (Below.refl _ _)).hF; have := List.mem_singleton.1 hm; omega)
              clear kt0 kt1 kt2 kt3 kt4 kt5 kt6 kt7 kt8 kt9 kt10 kt11 kt12 kt13 kt14
              clear b0 b1 b2 b3 b4 b5 b6 b7 b8 b9 bA bB bC
              clear HSTt HSTw
              clear HST hI2 hb2 hf2 HG1
              obtain ⟨n, hn⟩ : ∃ n, AL.length = n := ⟨_, rfl⟩
              have hnm := HALen.out
              have HNL := Lib.hid hn
              rw [hn] at hnm ⊢
              clear hn
              go_wp2_with fail
              go_loopw [72] (fun iv wr => ∃ (i : Nat) (l2 : List Int) (va : Option Addr) (vc : Nat), iv = .int .i64 i ∧ i ≤ n ∧ l2.length ≤ i ∧ Hid (l2 = (AL.take i).filter p) ∧ Hid (Grw x t q w w5 w2 wr va vc l2 1)) (fun iv _ => n - (intOf iv).toNat)
              case atStart => exact ⟨0, [], none, 0, rfl, Nat.zero_le _, Nat.le_refl _, Lib.hid rfl, HG2⟩
              case round =>
                obtain ⟨i, l2, va, vc, rfl, hil, hll, HL2, HGr⟩ := hrel
                have HIAr0 := ints_but HIA.out HGr.out.bn HFA.out
                rw [HNL.out] at HIAr0
                have HIAr := Lib.hid HIAr0
                clear HIAr0
                have HGp := Lib.hid (HGr.out).bp
                have p0 := HGp.out.cell 0
                have p1 := HGp.out.cell 1
                have p2 := HGp.out.cell 2
                have g0 := HGp.out.fr 0
                have g1 := HGp.out.fr 1
                have g2 := HGp.out.fr 2
                simp only [List.getElem?_cons_zero, List.getElem?_cons_succ] at p0 p1 p2
                have hzw : (w5).heap.size < wr.heap.size := HGp.out.lt
                have hzw2 : w2.heap.size ≤ wr.heap.size := HGr.out.hW
                by_cases hlt : i < n
                · have hiL : i < AL.length := by rw [HNL.out]; exact hlt
                  obtain ⟨b2, o2, hae, hb2, hcs2⟩ := HIAr.out.at2 (by omega)
                  subst hae
                  have hci := hcs2 i hiL
                  have HFt := Lib.hid (filter_takeN (p := p) hiL)
                  generalize AL[i] = y at *
                  clear hcs2 hiL
                  have hINc := HINB.out y wr HGr.out.bx
                  have hpy := HP.out y
                  obtain ⟨cy, hcy⟩ : ∃ r, (([] : List Int)).contains y = r := ⟨_, rfl⟩
                  rw [hcy] at hINc hpy
                  clear hcy
                  have HPYY := Lib.hid hpy
                  clear hpy
                  go_wp2_with fail
                  refine hINc.mono ?_
                  rintro e w3 ⟨rfl, rfl⟩
                  clear hINc
                  cases cy with
                  | true =>
                    have HE : Hid ((AL.take (i + 1)).filter p = (AL.take i).filter p) := Lib.hid (by rw [HFt.out, HPYY.out]; simp)
                    go_wp2_with fail
                    go_roundw
                    case rel => exact ⟨i + 1, l2, va, vc, by go_num, by omega, by omega, Lib.hid (by rw [HE.out]; exact HL2.out), HGr⟩
                    case measure => simp [intOf]; omega
                  | false =>
                    have HE : Hid ((AL.take (i + 1)).filter p = (AL.take i).filter p ++ [y]) := Lib.hid (by rw [HFt.out, HPYY.out]; simp)
                    have HWN := Lib.hid (HGr.out.row.1.alloc (.cells #[.int .i64 y] 3))
                    go_wp2_with (at_builtin; refine wpList_append_own _ rfl _ _ 23 rfl w2.heap.size 3 i0 (.int .i64 0) 1 8 Tryz.underlying23 hi hi1 hi2 hi3 rfl (by decide) _ l2.length (l2.map (Value.int .i64)) rfl HWN.out ⟨wr.heap.size, 0, none⟩ 1 1 [.int .i64 y] rfl rfl (int_newS _ _ _) (ow_one rfl) (by unfold maxLen; omega) (by omega) (by simp; omega) ?_; intro v3 w3 hown3 hgrow3 _; obtain ⟨g3, cap3, rfl⟩ := ownsRow_succ hown3; have HG3 := Lib.hid (HGr.out.add hgrow3 hown3); have HBX3 := Lib.hid (HGr.out.mid hgrow3); clear p0 p1 p2 g0 g1 g2; have p0 := HBX3.out.cell 0; have p1 := HBX3.out.cell 1; have p2 := HBX3.out.cell 2; have g0 := HBX3.out.fr 0; have g1 := HBX3.out.fr 1; have g2 := HBX3.out.fr 2; simp only [List.getElem?_cons_zero, List.getElem?_cons_succ] at p0 p1 p2; clear hown3 hgrow3)
                    go_roundw
                    case rel => exact ⟨i + 1, l2 ++ [y], some ⟨g3, 0, none⟩, cap3, by go_num, by omega, by rw [List.length_append, List.length_singleton]; omega, Lib.hid (by rw [HE.out, ← HL2.out]), HG3⟩
                    case measure => simp [intOf]; omega
                · have HE : Hid (AL.filter p = l2) := Lib.hid (by rw [HL2.out, List.take_of_length_le (by rw [HNL.out]; omega)])
                  by_cases hl0 : l2.length = 0
                  · obtain rfl : l2 = [] := List.length_eq_zero_iff.1 hl0
                    have HPF : Hid (PH = ⟨[], 1, 11⟩) := Lib.hid (by rw [HPY.out, if_pos HE.out])
                    clear hl0
                    simp only [List.length_nil] at p0
                    obtain ⟨W9, hW9⟩ : ∃ W9, wr.setCell ⟨(w5).heap.size, 2, none⟩ (.int .i64 11) = W9 := ⟨_, rfl⟩
                    have HST : Hid (Thr x t q w W9 [.slice none 0 0, .int .i64 0, .int .i64 0]) := Lib.hid (by rw [← hW9]; exact HGr.out.set9 _)
                    have HBP9 : Hid (BK W9 (w5).heap.size [.slice va 0 vc, .int .i64 1, .int .i64 11] 36) := Lib.hid (by
                      rw [← hW9]
                      have := HGr.out.bp.set 2 (.int .i64 11)
                      simpa only [List.set_cons_zero, List.set_cons_succ, List.length_nil] using this)
                    have z0 := HBP9.out.cell 0
                    have z1 := HBP9.out.cell 1
                    have z2 := HBP9.out.cell 2
                    simp only [List.getElem?_cons_zero, List.getElem?_cons_succ] at z0 z1 z2
                    have HIR : Hid (Ints W9 (.slice va ([] : List Int).length vc) []) := Lib.hid (ints_nil W9 vc va)
                    have HFR : Hid (∀ b o, va = some ⟨b, o, none⟩ → w.heap.size + 1 + 1 + 1 ≤ b) := Lib.hid (fun b o e => by have := ow_ge HGr.out.row.1 b o e; have := HGr.out.hB; have := HGr.out.hF; omega)
                    have hz9 : (w5).heap.size < W9.heap.size := HBP9.out.lt
                    have hzne : ¬ (w.heap.size + 1 + 1 = (w5).heap.size) := by have := HGr.out.hB; omega
                    -- world, address, capacity, list, used (Int), err (Int), used (Nat): what the result's cell comes to hold
                    have HBR : Hid (BK W9 (w.heap.size + 1 + 1) [.slice none 0 0, .int .i64 0, .int .i64 0] 36) := Lib.hid HST.out.br
                    have q0 := HBR.out.fr 0
                    have q1 := HBR.out.fr 1
                    have q2 := HBR.out.fr 2
                    have n0 := HBR.out.cell 0
                    have n1 := HBR.out.cell 1
                    have n2 := HBR.out.cell 2
                    simp only [List.getElem?_cons_zero, List.getElem?_cons_succ] at n0 n1 n2
                    have hz2 : w.heap.size + 1 + 1 < (W9).heap.size := HBR.out.lt
                    repeat ((fail_if_success (with_reducible refine post_mark ?_)); go_step)
                    generalize hWf : World.setCell _ ⟨w.heap.size + 1 + 1, 2, none⟩ _ = Wf
                    have HFin : BK Wf (w.heap.size + 1 + 1) [.slice va (([] : List Int)).length vc, .int .i64 1, .int .i64 11] 36 := by
                      rw [← hWf]
                      have := ((HBR.out.set 0 (.slice va (([] : List Int)).length vc)).set 1 (.int .i64 1)).set 2 (.int .i64 11)
                      simp only [List.set_cons_zero, List.set_cons_succ] at this
                      exact this
                    have HBT : But (W9).heap.size [w.heap.size + 1 + 1] W9 Wf := by
                      rw [← hWf]
                      exact (((But.refl _ _ _).set (List.mem_singleton.2 rfl) _ _).set (List.mem_singleton.2 rfl) _ _).set (List.mem_singleton.2 rfl) _ _
                    have HLF : Below w.heap.size w Wf := by
                      rw [← hWf]
                      exact bl_s (bl_s (bl_s HST.out.bl _ _) _ _) _ _
                    clear hWf
                    have HIF := Lib.hid (ints_but HIR.out HBT (fun b o e hm => by have := HFR.out b o e; have := List.mem_singleton.1 hm; omega))
                    have HLFh := Lib.hid HLF
                    have HLO : Hid (∀ b o, (va : Option Addr) = some ⟨b, o, none⟩ → w.heap.size ≤ b) := Lib.hid (fun b o e => by have := HFR.out b o e; omega)
                    have v0 := HFin.cell 0
                    have v1 := HFin.cell 1
                    have v2 := HFin.cell 2
                    simp only [List.getElem?_cons_zero, List.getElem?_cons_succ] at v0 v1 v2
                    clear HLF HBT
                    rw [HPF.out]
                    refine bodyPost_ret (v := .agg #[.slice va (([] : List Int)).length vc, .int .i64 1, .int .i64 11]) ?_ rfl ⟨va, vc, (by first | (with_reducible rfl) | (show _ = Ending.returned (.agg #[.slice va (([] : List Int)).length vc, .int .i64 ((2 + u : Nat) : Int), .int .i64 11]); rw [Int.natCast_add, ← HU.out]; rfl) | rfl), HIF.out, HLFh.out, HLO.out⟩
                    simp [results, Tryz.results11, go_sem, v0, v1, v2]
                  · have HPF : Hid (PH = ⟨l2, 1, 0⟩) := Lib.hid (by rw [HPY.out, HE.out, if_neg (fun e => hl0 (by rw [e]; rfl))])
                    have HST : Hid (Thr x t q w wr [.slice none 0 0, .int .i64 0, .int .i64 0]) := Lib.hid HGr.out.thr
                    have HIR : Hid (Ints wr (.slice va l2.length vc) l2) := Lib.hid (HGr.out.row.ints (by unfold maxLen; omega))
                    have HFR : Hid (∀ b o, va = some ⟨b, o, none⟩ → w.heap.size + 1 + 1 + 1 ≤ b) := Lib.hid (fun b o e => by have := ow_ge HGr.out.row.1 b o e; have := HGr.out.hB; have := HGr.out.hF; omega)
                    have hzne : ¬ (w.heap.size + 1 + 1 = (w5).heap.size) := by have := HGr.out.hB; omega
                    have hl0b : ((l2.length : Int) == 0) = false := by simpa using hl0
                    -- world, address, capacity, list, used (Int), err (Int), used (Nat): what the result's cell comes to hold
                    have HBR : Hid (BK wr (w.heap.size + 1 + 1) [.slice none 0 0, .int .i64 0, .int .i64 0] 36) := Lib.hid HST.out.br
                    have q0 := HBR.out.fr 0
                    have q1 := HBR.out.fr 1
                    have q2 := HBR.out.fr 2
                    have n0 := HBR.out.cell 0
                    have n1 := HBR.out.cell 1
                    have n2 := HBR.out.cell 2
                    simp only [List.getElem?_cons_zero, List.getElem?_cons_succ] at n0 n1 n2
                    have hz2 : w.heap.size + 1 + 1 < (wr).heap.size := HBR.out.lt
                    repeat ((fail_if_success (with_reducible refine post_mark ?_)); go_step)
                    generalize hWf : World.setCell _ ⟨w.heap.size + 1 + 1, 2, none⟩ _ = Wf
                    have HFin : BK Wf (w.heap.size + 1 + 1) [.slice va (l2).length vc, .int .i64 1, .int .i64 0] 36 := by
                      rw [← hWf]
                      have := ((HBR.out.set 0 (.slice va (l2).length vc)).set 1 (.int .i64 1)).set 2 (.int .i64 0)
                      simp only [List.set_cons_zero, List.set_cons_succ] at this
                      exact this
                    have HBT : But (wr).heap.size [w.heap.size + 1 + 1] wr Wf := by
                      rw [← hWf]
                      exact (((But.refl _ _ _).set (List.mem_singleton.2 rfl) _ _).set (List.mem_singleton.2 rfl) _ _).set (List.mem_singleton.2 rfl) _ _
                    have HLF : Below w.heap.size w Wf := by
                      rw [← hWf]
                      exact bl_s (bl_s (bl_s HST.out.bl _ _) _ _) _ _
                    clear hWf
                    have HIF := Lib.hid (ints_but HIR.out HBT (fun b o e hm => by have := HFR.out b o e; have := List.mem_singleton.1 hm; omega))
                    have HLFh := Lib.hid HLF
                    have HLO : Hid (∀ b o, (va : Option Addr) = some ⟨b, o, none⟩ → w.heap.size ≤ b) := Lib.hid (fun b o e => by have := HFR.out b o e; omega)
                    have v0 := HFin.cell 0
                    have v1 := HFin.cell 1
                    have v2 := HFin.cell 2
                    simp only [List.getElem?_cons_zero, List.getElem?_cons_succ] at v0 v1 v2
                    clear HLF HBT
                    rw [HPF.out]
                    refine bodyPost_ret (v := .agg #[.slice va (l2).length vc, .int .i64 1, .int .i64 0]) ?_ rfl ⟨va, vc, (by first | (with_reducible rfl) | (show _ = Ending.returned (.agg #[.slice va (l2).length vc, .int .i64 ((2 + u : Nat) : Int), .int .i64 0]); rw [Int.natCast_add, ← HU.out]; rfl) | rfl), HIF.out, HLFh.out, HLO.out⟩
                    simp [results, Tryz.results11, go_sem, v0, v1, v2]
          | true =>
            obtain ⟨A2, hA2⟩ : ∃ A2 : Option Addr, (if c = 2 then some ⟨b, o, none⟩ else some ⟨b, o + 2, none⟩) = A2 := ⟨_, rfl⟩
            have HL2 := Lib.hid (fun w' (hb : Below w.heap.size w w') => HLI.out A2 (ws.drop 2) (c - 2) w' hb (by
              rw [← hA2]
              by_cases hc2 : c = 2
              · have h0 : ws.drop 2 = [] := List.drop_eq_nil_of_le (by rw [HWM.out]; omega)
                rw [h0]; exact wds_nil _ _
              · rw [if_neg hc2]; exact wds_drop (HWD.out w' hb) 2 b o rfl) (by rw [List.length_drop, HWM.out]; omega) (by rw [List.length_drop, HWM.out]; omega))
            have h2m : (2 : Int) ≤ (m : Int) := by omega
            have hd2 : (ws.drop 2).length = m - 2 := by rw [List.length_drop, HWM.out]
            rw [hd2] at HL2
            have HPP : Hid (PH = if (listN one ((ws.drop 2).map keyW) (m - 2 + 1) 0 []).er = 0 then (if leftN vis car (listN one ((ws.drop 2).map keyW) (m - 2 + 1) 0 []).th = [] then ⟨[], 2 + (listN one ((ws.drop 2).map keyW) (m - 2 + 1) 0 []).us, 11⟩ else ⟨leftN vis car (listN one ((ws.drop 2).map keyW) (m - 2 + 1) 0 []).th, 2 + (listN one ((ws.drop 2).map keyW) (m - 2 + 1) 0 []).us, 0⟩) else ⟨[], 2 + (listN one ((ws.drop 2).map keyW) (m - 2 + 1) 0 []).us, (listN one ((ws.drop 2).map keyW) (m - 2 + 1) 0 []).er⟩) := Lib.hid (by
              rw [← HPH.out, HKS2.out, ← hd2]
              simp only [parseN, manyN, if_true, HCA.out, HCB.out, List.length_map])
            have HUSB : Hid ((listN one ((ws.drop 2).map keyW) (m - 2 + 1) 0 []).us ≤ 1000) := Lib.hid (Nat.le_trans (list_us HUS.out _ _ _ _ (Nat.zero_le _)) (by rw [List.length_map, List.length_drop, HWM.out]; omega))
            clear HPH hd2
            generalize listN one ((ws.drop 2).map keyW) (m - 2 + 1) 0 [] = p1 at *
            obtain ⟨l, u, r⟩ := p1
            dsimp only at HPP HUSB
            have hus := HUSB.out
            have hz0 : w.heap.size < w5.heap.size := HSTt.out.lt
            have hz1 : w.heap.size + 1 < w5.heap.size := HSTw.out.lt
            go_upto_region 8 with (fail)
            go_cut [11] (fun s11 wx => ∃ (Bp : Nat) (pa : Option Addr) (pc : Nat), s11 = .pointer (some ⟨Bp, 0, none⟩) ∧ Hid (Thr x t q w wx [.slice none 0 0, .int .i64 0, .int .i64 0]) ∧ Hid (BK wx Bp [.slice pa l.length pc, .int .i64 u, .int .i64 r] 36) ∧ Hid (Ints wx (.slice pa l.length pc) l))
            case first =>
              refine region_ways (.rd 0 (.rd 1 (.rd 2 (.rd 3 (.two 4 5 (.one 5 (.one 6 .done)) (.one 4 (.one 6 .done))))))) (fun w' => Below w5.heap.size w5 w') (by kernel_rfl) (by kernel_rfl) ((Below.refl _ _).drew) (fun KK hKK => ?_)
              intro OPS
              simp only [Ways.see, List.getElem?_cons_zero, List.getElem?_cons_succ]
              iterate 4
                (refine' inWays_read ?_ ?_ ?_ ?_
                 rotate_left 2
                 · rfl
                 · (intro w' hS; obtain ⟨hcc, hff⟩ := bcell hS; go_simp; first | with_reducible rfl | skip)
                 · (simp only [Act.put, List.setIfInBounds_toArray, List.set_cons_zero, List.set_cons_succ]; with_reducible rfl))
              refine inWays_two ?_ ?_
              · refine' inWays_call ?_ ?_ ?_
                rotate_left 2
                · rfl
                · (go_simp; exact ⟨rfl, rfl⟩)
                refine (HL2.out _ (bl_then HST.out.bl (Below.refl _ _).drew)).mono ?_
                rintro e w6 ⟨pa, pc, rfl, hI6, hb6, hf6⟩
                have HB6 : Hid (Below w5.heap.size w5 w6) := Lib.hid (bl_then (Below.refl _ _).drew hb6)
                have HST6 := Lib.hid (HST.out.below HB6.out)
                have HI6 := Lib.hid hI6
                clear hb6 hI6 hf6
                dsimp only at HI6 ⊢
                refine ⟨_, rfl, HB6.out, ?_⟩
                simp only [Act.put, List.setIfInBounds_toArray, List.set_cons_zero, List.set_cons_succ]
                refine' inWays_val ?_ ?_ ?_ ?_ ?_
                rotate_left 3
                · rfl
                · (go_simp; first | exact ⟨rfl, rfl⟩ | with_reducible rfl)
                · exact bl_a HB6.out _
                · (simp only [Act.put, List.setIfInBounds_toArray, List.set_cons_zero, List.set_cons_succ]; with_reducible rfl)
                have hz56 : w5.heap.size ≤ w6.heap.size := HB6.out.size
                generalize hWa : World.alloc w6 _ = Wa
                have HBK : Hid (BK Wa w6.heap.size [.slice none 0 0, .int .i64 0, .int .i64 0] 36) := Lib.hid (by rw [← hWa]; exact BK.new _ _ _)
                have HBa : Hid (Below w5.heap.size w5 Wa) := Lib.hid (by rw [← hWa]; exact bl_a HB6.out _)
                have HB6a : Hid (Below w6.heap.size w6 Wa) := Lib.hid (by rw [← hWa]; exact bl_a (Below.refl _ _) _)
                clear hWa
                have y0 := HBK.out.cell 0
                have y1 := HBK.out.cell 1
                have y2 := HBK.out.cell 2
                have x0 := HBK.out.fr 0
                have x1 := HBK.out.fr 1
                have x2 := HBK.out.fr 2
                simp only [List.getElem?_cons_zero, List.getElem?_cons_succ] at y0 y1 y2
                have hzb : w6.heap.size < (Wa).heap.size := HBK.out.lt
                refine' inWays_skip ?_ ?_ ?_ ?_ ?_
                rotate_left 2
                · rfl
                · (go_simp; first | exact ⟨rfl, rfl⟩ | with_reducible rfl)
                · exact bl_s (bl_s (bl_s HBa.out _ _) _ _) _ _
                · (simp only [Act.put, List.setIfInBounds_toArray, List.set_cons_zero, List.set_cons_succ]; with_reducible rfl)
                refine inWays_nil (hKK.out _ _ ?_)
                have HBz := bl_s (bl_s (bl_s HBa.out 0 (.slice pa l.length pc) (k := w6.heap.size)) 1 (.int .i64 u) (k := w6.heap.size)) 2 (.int .i64 r) (k := w6.heap.size)
                have HKz : BK ((((Wa).setCell ⟨w6.heap.size, 0, none⟩ (.slice pa l.length pc)).setCell ⟨w6.heap.size, 1, none⟩ (.int .i64 u)).setCell ⟨w6.heap.size, 2, none⟩ (.int .i64 r)) w6.heap.size [.slice pa l.length pc, .int .i64 u, .int .i64 r] 36 := by
                  have := ((HBK.out.set 0 (.slice pa l.length pc)).set 1 (.int .i64 u)).set 2 (.int .i64 r)
                  simp only [List.set_cons_zero, List.set_cons_succ] at this
                  exact this
                go_wp2_with fail
                go_meet
                case' rel =>
                  skip
                exact ⟨w6.heap.size, pa, pc, rfl, Lib.hid (HST.out.below HBz), Lib.hid HKz, Lib.hid (HI6.out.below (bl_s (bl_s (bl_s HB6a.out _ _) _ _) _ _))⟩
              · refine' inWays_val ?_ ?_ ?_ ?_ ?_
                rotate_left 3
                · rfl
                · (go_simp; first | exact ⟨rfl, rfl⟩ | with_reducible rfl)
                · exact bl_a ((Below.refl _ _).drew) _
                · (simp only [Act.put, List.setIfInBounds_toArray, List.set_cons_zero, List.set_cons_succ]; with_reducible rfl)
                generalize hWa : World.drew (World.alloc w5 _) = Wa
                have HBK0 : Hid (BK Wa w5.heap.size [.slice none 0 0, .int .i64 0, .int .i64 0] 36) := Lib.hid (by rw [← hWa]; exact BK.new w5 _ _)
                have HBa0 : Hid (Below w5.heap.size w5 Wa) := Lib.hid (by rw [← hWa]; exact (bl_a (Below.refl _ _) _).drew)
                clear hWa
                refine' inWays_call ?_ ?_ ?_
                rotate_left 2
                · rfl
                · (go_simp; exact ⟨rfl, rfl⟩)
                refine (HL2.out _ (bl_then HST.out.bl HBa0.out)).mono ?_
                rintro e w6 ⟨pa, pc, rfl, hI6, hb6, hf6⟩
                have HI6 := Lib.hid hI6
                have HBa : Hid (Below w5.heap.size w5 w6) := Lib.hid (bl_then HBa0.out hb6)
                have HBK := Lib.hid (HBK0.out.below hb6)
                have HFF : Hid (∀ b o, pa = some ⟨b, o, none⟩ → b ∉ [w5.heap.size]) := Lib.hid (fun b o e hm => by have := hf6 b o e; have := HBK0.out.lt; have := List.mem_singleton.1 hm; omega)
                clear hI6 hf6 hb6
                dsimp only at HI6 ⊢
                refine ⟨_, rfl, HBa.out, ?_⟩
                simp only [Act.put, List.setIfInBounds_toArray, List.set_cons_zero, List.set_cons_succ]
                have y0 := HBK.out.cell 0
                have y1 := HBK.out.cell 1
                have y2 := HBK.out.cell 2
                have x0 := HBK.out.fr 0
                have x1 := HBK.out.fr 1
                have x2 := HBK.out.fr 2
                simp only [List.getElem?_cons_zero, List.getElem?_cons_succ] at y0 y1 y2
                have hzb : w5.heap.size < (w6).heap.size := HBK.out.lt
                refine' inWays_skip ?_ ?_ ?_ ?_ ?_
                rotate_left 2
                · rfl
                · (go_simp; first | exact ⟨rfl, rfl⟩ | with_reducible rfl)
                · exact bl_s (bl_s (bl_s HBa.out _ _) _ _) _ _
                · (simp only [Act.put, List.setIfInBounds_toArray, List.set_cons_zero, List.set_cons_succ]; with_reducible rfl)
                refine inWays_nil (hKK.out _ _ ?_)
                have HBz := bl_s (bl_s (bl_s HBa.out 0 (.slice pa l.length pc) (k := w5.heap.size)) 1 (.int .i64 u) (k := w5.heap.size)) 2 (.int .i64 r) (k := w5.heap.size)
                have HKz : BK ((((w6).setCell ⟨w5.heap.size, 0, none⟩ (.slice pa l.length pc)).setCell ⟨w5.heap.size, 1, none⟩ (.int .i64 u)).setCell ⟨w5.heap.size, 2, none⟩ (.int .i64 r)) w5.heap.size [.slice pa l.length pc, .int .i64 u, .int .i64 r] 36 := by
                  have := ((HBK.out.set 0 (.slice pa l.length pc)).set 1 (.int .i64 u)).set 2 (.int .i64 r)
                  simp only [List.set_cons_zero, List.set_cons_succ] at this
                  exact this
                go_wp2_with fail
                go_meet
                case' rel =>
                  skip
                exact ⟨w5.heap.size, pa, pc, rfl, Lib.hid (HST.out.below HBz), Lib.hid HKz, Lib.hid (ints_but HI6.out ((((But.refl w6.heap.size _ _).set (List.mem_singleton.2 rfl) _ _).set (List.mem_singleton.2 rfl) _ _).set (List.mem_singleton.2 rfl) _ _) HFF.out)⟩
            case rest =>
              obtain ⟨Bp, pa, pc, rfl, HST9, HBP, HIB⟩ := hcut
              clear kt0 kt1 kt2 kt3 kt4 kt5 kt6 kt7 kt8 kt9 kt10 kt11 kt12 kt13 kt14
              clear b0 b1 b2 b3 b4 b5 b6 b7 b8 b9 bA bB bC
              clear HSTt HSTw
              clear HST hz0 hz1
              have HST := HST9
              clear HST9
              have HSTt := Lib.hid HST.out.bt
              have HSTw := Lib.hid HST.out.bw
              obtain ⟨kt0, kt1, kt2, kt3, kt4, kt5, kt6, kt7, kt8, kt9, kt10, kt11, kt12, kt13, kt14⟩ := tab15 (HSTt.out)
              obtain ⟨b0, b1, b2, b3, b4, b5, b6, b7, b8, b9, bA, bB, bC⟩ := wd13 (HSTw.out)
              have z0 := HBP.out.cell 0
              have z1 := HBP.out.cell 1
              have z2 := HBP.out.cell 2
              simp only [List.getElem?_cons_zero, List.getElem?_cons_succ] at z0 z1 z2
              have hwr : IntKind.i64.wrap (2 + (u : Int)) = 2 + (u : Int) := IntWalk.i64_in _ (by omega)
              have hwr2 : wrap64 (2 + (u : Int)) = 2 + (u : Int) := IntWalk.wrap64_in _ (by omega)
              go_upto_region 10 with (fail)
              obtain ⟨U, hU⟩ : ∃ U : Int, 2 + (u : Int) = U := ⟨_, rfl⟩
              rw [hU]
              have HU := Lib.hid hU
              clear hwr hwr2 hU hA2 h2m hm3 hm2 hmne hm1 hm0 hwu1
              by_cases hr0 : r = 0
              · subst hr0
                have HPX : Hid (PH = if leftN vis car l = [] then ⟨[], 2 + u, 11⟩ else ⟨leftN vis car l, 2 + u, 0⟩) := Lib.hid (by rw [HPP.out, if_pos rfl])
                clear HPP
                -- world wc, used (Nat) (2 + u), but: address pa, length l.length, capacity pc, list l; used (Int) U
                as_aux_lemma =>
                  obtain ⟨p, hp⟩ : ∃ p : Int → Bool, (fun y => !(l).contains y) = p := ⟨_, rfl⟩
                  have HP : Hid (∀ y, p y = !(l).contains y) := Lib.hid (fun y => by rw [← hp])
                  have HPY : Hid (PH = if AL.filter p = [] then ⟨[], (2 + u), 11⟩ else ⟨AL.filter p, (2 + u), 0⟩) := Lib.hid (by have := HPX.out; rw [HAL2.out, hp] at this; exact this)
                  have HINB := Lib.hid (fun y w' (hb : Below (wc).heap.size wc w') => inC2 pa l l.length pc y w' (HIB.out.below hb) rfl)
                  clear hp HPX HIB
                  go_upto_region 14 with (fail)
                  generalize hW1 : World.alloc wc _ = W1
                  have HG1 : Hid (∀ w2, Below W1.heap.size W1 w2 → Grw x t q w wc w2 w2 none 0 [] U) := Lib.hid (fun w2 hb => by rw [← hW1] at hb; exact Grw.start HST.out hb)
                  have HST1 : Hid (Thr x t q w W1 [.slice none 0 0, .int .i64 0, .int .i64 0]) := Lib.hid (by rw [← hW1]; exact HST.out.below (bl_a (Below.refl _ _) _))
                  clear kt0 kt1 kt2 kt3 kt4 kt5 kt6 kt7 kt8 kt9 kt10 kt11 kt12 kt13 kt14
                  clear b0 b1 b2 b3 b4 b5 b6 b7 b8 b9 bA bB bC
                  clear HSTt HSTw
                  clear HST hW1
                  have HST := HST1
                  clear HST1
                  have HSTt := Lib.hid HST.out.bt
                  have HSTw := Lib.hid HST.out.bw
                  obtain ⟨kt0, kt1, kt2, kt3, kt4, kt5, kt6, kt7, kt8, kt9, kt10, kt11, kt12, kt13, kt14⟩ := tab15 (HSTt.out)
                  obtain ⟨b0, b1, b2, b3, b4, b5, b6, b7, b8, b9, bA, bB, bC⟩ := wd13 (HSTw.out)
                  go_wp2_with fail
                  refine (HAL.out _ HST.out.bl).mono ?_
                  rintro e w2 ⟨aa, ac, rfl, hI2, hb2, hf2⟩
                  have HG2 := Lib.hid (HG1.out w2 hb2)
                  have HIA := Lib.hid hI2
                  have HFA : Hid (∀ b o, aa = some ⟨b, o, none⟩ → b ∉ [(wc).heap.size]) := Lib.hid (fun b o e hm => by have := hf2 b o e; have := HG2.out.hB; have := (HG1.out W1 (Below.refl _ _)).hF; have := List.mem_singleton.1 hm; omega)
                  clear kt0 kt1 kt2 kt3 kt4 kt5 kt6 kt7 kt8 kt9 kt10 kt11 kt12 kt13 kt14
                  clear b0 b1 b2 b3 b4 b5 b6 b7 b8 b9 bA bB bC
                  clear HSTt HSTw
                  clear HST hI2 hb2 hf2 HG1
                  obtain ⟨n, hn⟩ : ∃ n, AL.length = n := ⟨_, rfl⟩
                  have hnm := HALen.out
                  have HNL := Lib.hid hn
                  rw [hn] at hnm ⊢
                  clear hn
                  go_wp2_with fail
                  go_loopw [72] (fun iv wr => ∃ (i : Nat) (l2 : List Int) (va : Option Addr) (vc : Nat), iv = .int .i64 i ∧ i ≤ n ∧ l2.length ≤ i ∧ Hid (l2 = (AL.take i).filter p) ∧ Hid (Grw x t q w wc w2 wr va vc l2 U)) (fun iv _ => n - (intOf iv).toNat)
                  case atStart => exact ⟨0, [], none, 0, rfl, Nat.zero_le _, Nat.le_refl _, Lib.hid rfl, HG2⟩
                  case round =>
                    obtain ⟨i, l2, va, vc, rfl, hil, hll, HL2, HGr⟩ := hrel
                    have HIAr0 := ints_but HIA.out HGr.out.bn HFA.out
                    rw [HNL.out] at HIAr0
                    have HIAr := Lib.hid HIAr0
                    clear HIAr0
                    have HGp := Lib.hid (HGr.out).bp
                    have p0 := HGp.out.cell 0
                    have p1 := HGp.out.cell 1
                    have p2 := HGp.out.cell 2
                    have g0 := HGp.out.fr 0
                    have g1 := HGp.out.fr 1
                    have g2 := HGp.out.fr 2
                    simp only [List.getElem?_cons_zero, List.getElem?_cons_succ] at p0 p1 p2
                    have hzw : (wc).heap.size < wr.heap.size := HGp.out.lt
                    have hzw2 : w2.heap.size ≤ wr.heap.size := HGr.out.hW
                    by_cases hlt : i < n
                    · have hiL : i < AL.length := by rw [HNL.out]; exact hlt
                      obtain ⟨b2, o2, hae, hb2, hcs2⟩ := HIAr.out.at2 (by omega)
                      subst hae
                      have hci := hcs2 i hiL
                      have HFt := Lib.hid (filter_takeN (p := p) hiL)
                      generalize AL[i] = y at *
                      clear hcs2 hiL
                      have hINc := HINB.out y wr HGr.out.bx
                      have hpy := HP.out y
                      obtain ⟨cy, hcy⟩ : ∃ r, (l).contains y = r := ⟨_, rfl⟩
                      rw [hcy] at hINc hpy
                      clear hcy
                      have HPYY := Lib.hid hpy
                      clear hpy
                      go_wp2_with fail
                      refine hINc.mono ?_
                      rintro e w3 ⟨rfl, rfl⟩
                      clear hINc
                      cases cy with
                      | true =>
                        have HE : Hid ((AL.take (i + 1)).filter p = (AL.take i).filter p) := Lib.hid (by rw [HFt.out, HPYY.out]; simp)
                        go_wp2_with fail
                        go_roundw
                        case rel => exact ⟨i + 1, l2, va, vc, by go_num, by omega, by omega, Lib.hid (by rw [HE.out]; exact HL2.out), HGr⟩
                        case measure => simp [intOf]; omega
                      | false =>
                        have HE : Hid ((AL.take (i + 1)).filter p = (AL.take i).filter p ++ [y]) := Lib.hid (by rw [HFt.out, HPYY.out]; simp)
                        have HWN := Lib.hid (HGr.out.row.1.alloc (.cells #[.int .i64 y] 3))
                        go_wp2_with (at_builtin; refine wpList_append_own _ rfl _ _ 23 rfl w2.heap.size 3 i0 (.int .i64 0) 1 8 Tryz.underlying23 hi hi1 hi2 hi3 rfl (by decide) _ l2.length (l2.map (Value.int .i64)) rfl HWN.out ⟨wr.heap.size, 0, none⟩ 1 1 [.int .i64 y] rfl rfl (int_newS _ _ _) (ow_one rfl) (by unfold maxLen; omega) (by omega) (by simp; omega) ?_; intro v3 w3 hown3 hgrow3 _; obtain ⟨g3, cap3, rfl⟩ := ownsRow_succ hown3; have HG3 := Lib.hid (HGr.out.add hgrow3 hown3); have HBX3 := Lib.hid (HGr.out.mid hgrow3); clear p0 p1 p2 g0 g1 g2; have p0 := HBX3.out.cell 0; have p1 := HBX3.out.cell 1; have p2 := HBX3.out.cell 2; have g0 := HBX3.out.fr 0; have g1 := HBX3.out.fr 1; have g2 := HBX3.out.fr 2; simp only [List.getElem?_cons_zero, List.getElem?_cons_succ] at p0 p1 p2; clear hown3 hgrow3)
                        go_roundw
                        case rel => exact ⟨i + 1, l2 ++ [y], some ⟨g3, 0, none⟩, cap3, by go_num, by omega, by rw [List.length_append, List.length_singleton]; omega, Lib.hid (by rw [HE.out, ← HL2.out]), HG3⟩
                        case measure => simp [intOf]; omega
                    · have HE : Hid (AL.filter p = l2) := Lib.hid (by rw [HL2.out, List.take_of_length_le (by rw [HNL.out]; omega)])
                      by_cases hl0 : l2.length = 0
                      · obtain rfl : l2 = [] := List.length_eq_zero_iff.1 hl0
                        have HPF : Hid (PH = ⟨[], (2 + u), 11⟩) := Lib.hid (by rw [HPY.out, if_pos HE.out])
                        clear hl0
                        simp only [List.length_nil] at p0
                        obtain ⟨W9, hW9⟩ : ∃ W9, wr.setCell ⟨(wc).heap.size, 2, none⟩ (.int .i64 11) = W9 := ⟨_, rfl⟩
                        have HST : Hid (Thr x t q w W9 [.slice none 0 0, .int .i64 0, .int .i64 0]) := Lib.hid (by rw [← hW9]; exact HGr.out.set9 _)
                        have HBP9 : Hid (BK W9 (wc).heap.size [.slice va 0 vc, .int .i64 U, .int .i64 11] 36) := Lib.hid (by
                          rw [← hW9]
                          have := HGr.out.bp.set 2 (.int .i64 11)
                          simpa only [List.set_cons_zero, List.set_cons_succ, List.length_nil] using this)
                        have z0 := HBP9.out.cell 0
                        have z1 := HBP9.out.cell 1
                        have z2 := HBP9.out.cell 2
                        simp only [List.getElem?_cons_zero, List.getElem?_cons_succ] at z0 z1 z2
                        have HIR : Hid (Ints W9 (.slice va ([] : List Int).length vc) []) := Lib.hid (ints_nil W9 vc va)
                        have HFR : Hid (∀ b o, va = some ⟨b, o, none⟩ → w.heap.size + 1 + 1 + 1 ≤ b) := Lib.hid (fun b o e => by have := ow_ge HGr.out.row.1 b o e; have := HGr.out.hB; have := HGr.out.hF; omega)
                        have hz9 : (wc).heap.size < W9.heap.size := HBP9.out.lt
                        have hzne : ¬ (w.heap.size + 1 + 1 = (wc).heap.size) := by have := HGr.out.hB; omega
                        -- world, address, capacity, list, used (Int), err (Int), used (Nat): what the result's cell comes to hold
                        have HBR : Hid (BK W9 (w.heap.size + 1 + 1) [.slice none 0 0, .int .i64 0, .int .i64 0] 36) := Lib.hid HST.out.br
                        have q0 := HBR.out.fr 0
                        have q1 := HBR.out.fr 1
                        have q2 := HBR.out.fr 2
                        have n0 := HBR.out.cell 0
                        have n1 := HBR.out.cell 1
                        have n2 := HBR.out.cell 2
                        simp only [List.getElem?_cons_zero, List.getElem?_cons_succ] at n0 n1 n2
                        have hz2 : w.heap.size + 1 + 1 < (W9).heap.size := HBR.out.lt
                        repeat ((fail_if_success (with_reducible refine post_mark ?_)); go_step)
                        generalize hWf : World.setCell _ ⟨w.heap.size + 1 + 1, 2, none⟩ _ = Wf
                        have HFin : BK Wf (w.heap.size + 1 + 1) [.slice va (([] : List Int)).length vc, .int .i64 U, .int .i64 11] 36 := by
                          rw [← hWf]
                          have := ((HBR.out.set 0 (.slice va (([] : List Int)).length vc)).set 1 (.int .i64 U)).set 2 (.int .i64 11)
                          simp only [List.set_cons_zero, List.set_cons_succ] at this
                          exact this
                        have HBT : But (W9).heap.size [w.heap.size + 1 + 1] W9 Wf := by
                          rw [← hWf]
                          exact (((But.refl _ _ _).set (List.mem_singleton.2 rfl) _ _).set (List.mem_singleton.2 rfl) _ _).set (List.mem_singleton.2 rfl) _ _
                        have HLF : Below w.heap.size w Wf := by
                          rw [← hWf]
                          exact bl_s (bl_s (bl_s HST.out.bl _ _) _ _) _ _
                        clear hWf
                        have HIF := Lib.hid (ints_but HIR.out HBT (fun b o e hm => by have := HFR.out b o e; have := List.mem_singleton.1 hm; omega))
                        have HLFh := Lib.hid HLF
                        have HLO : Hid (∀ b o, (va : Option Addr) = some ⟨b, o, none⟩ → w.heap.size ≤ b) := Lib.hid (fun b o e => by have := HFR.out b o e; omega)
                        have v0 := HFin.cell 0
                        have v1 := HFin.cell 1
                        have v2 := HFin.cell 2
                        simp only [List.getElem?_cons_zero, List.getElem?_cons_succ] at v0 v1 v2
                        clear HLF HBT
                        rw [HPF.out]
                        refine bodyPost_ret (v := .agg #[.slice va (([] : List Int)).length vc, .int .i64 U, .int .i64 11]) ?_ rfl ⟨va, vc, (by first | (with_reducible rfl) | (show _ = Ending.returned (.agg #[.slice va (([] : List Int)).length vc, .int .i64 ((2 + u : Nat) : Int), .int .i64 11]); rw [Int.natCast_add, ← HU.out]; rfl) | rfl), HIF.out, HLFh.out, HLO.out⟩
                        simp [results, Tryz.results11, go_sem, v0, v1, v2]
                      · have HPF : Hid (PH = ⟨l2, (2 + u), 0⟩) := Lib.hid (by rw [HPY.out, HE.out, if_neg (fun e => hl0 (by rw [e]; rfl))])
                        have HST : Hid (Thr x t q w wr [.slice none 0 0, .int .i64 0, .int .i64 0]) := Lib.hid HGr.out.thr
                        have HIR : Hid (Ints wr (.slice va l2.length vc) l2) := Lib.hid (HGr.out.row.ints (by unfold maxLen; omega))
                        have HFR : Hid (∀ b o, va = some ⟨b, o, none⟩ → w.heap.size + 1 + 1 + 1 ≤ b) := Lib.hid (fun b o e => by have := ow_ge HGr.out.row.1 b o e; have := HGr.out.hB; have := HGr.out.hF; omega)
                        have hzne : ¬ (w.heap.size + 1 + 1 = (wc).heap.size) := by have := HGr.out.hB; omega
                        have hl0b : ((l2.length : Int) == 0) = false := by simpa using hl0
                        -- world, address, capacity, list, used (Int), err (Int), used (Nat): what the result's cell comes to hold
                        have HBR : Hid (BK wr (w.heap.size + 1 + 1) [.slice none 0 0, .int .i64 0, .int .i64 0] 36) := Lib.hid HST.out.br
                        have q0 := HBR.out.fr 0
                        have q1 := HBR.out.fr 1
                        have q2 := HBR.out.fr 2
                        have n0 := HBR.out.cell 0
                        have n1 := HBR.out.cell 1
                        have n2 := HBR.out.cell 2
                        simp only [List.getElem?_cons_zero, List.getElem?_cons_succ] at n0 n1 n2
                        have hz2 : w.heap.size + 1 + 1 < (wr).heap.size := HBR.out.lt
                        repeat ((fail_if_success (with_reducible refine post_mark ?_)); go_step)
                        generalize hWf : World.setCell _ ⟨w.heap.size + 1 + 1, 2, none⟩ _ = Wf
                        have HFin : BK Wf (w.heap.size + 1 + 1) [.slice va (l2).length vc, .int .i64 U, .int .i64 0] 36 := by
                          rw [← hWf]
                          have := ((HBR.out.set 0 (.slice va (l2).length vc)).set 1 (.int .i64 U)).set 2 (.int .i64 0)
                          simp only [List.set_cons_zero, List.set_cons_succ] at this
                          exact this
                        have HBT : But (wr).heap.size [w.heap.size + 1 + 1] wr Wf := by
                          rw [← hWf]
                          exact (((But.refl _ _ _).set (List.mem_singleton.2 rfl) _ _).set (List.mem_singleton.2 rfl) _ _).set (List.mem_singleton.2 rfl) _ _
                        have HLF : Below w.heap.size w Wf := by
                          rw [← hWf]
                          exact bl_s (bl_s (bl_s HST.out.bl _ _) _ _) _ _
                        clear hWf
                        have HIF := Lib.hid (ints_but HIR.out HBT (fun b o e hm => by have := HFR.out b o e; have := List.mem_singleton.1 hm; omega))
                        have HLFh := Lib.hid HLF
                        have HLO : Hid (∀ b o, (va : Option Addr) = some ⟨b, o, none⟩ → w.heap.size ≤ b) := Lib.hid (fun b o e => by have := HFR.out b o e; omega)
                        have v0 := HFin.cell 0
                        have v1 := HFin.cell 1
                        have v2 := HFin.cell 2
                        simp only [List.getElem?_cons_zero, List.getElem?_cons_succ] at v0 v1 v2
                        clear HLF HBT
                        rw [HPF.out]
                        refine bodyPost_ret (v := .agg #[.slice va (l2).length vc, .int .i64 U, .int .i64 0]) ?_ rfl ⟨va, vc, (by first | (with_reducible rfl) | (show _ = Ending.returned (.agg #[.slice va (l2).length vc, .int .i64 ((2 + u : Nat) : Int), .int .i64 0]); rw [Int.natCast_add, ← HU.out]; rfl) | rfl), HIF.out, HLFh.out, HLO.out⟩
                        simp [results, Tryz.results11, go_sem, v0, v1, v2]
              · have e3 : (r == 0) = false := by simp [hr0]
                have e4 : (r != 0) = true := by simp [hr0]
                have HPF : Hid (PH = ⟨[], 2 + u, r⟩) := Lib.hid (by rw [HPP.out, if_neg hr0])
                have HIR : Hid (Ints wc (.slice none ([] : List Int).length 0) []) := Lib.hid (ints_nil wc 0 none)
                have HFR : Hid (∀ b o, (none : Option Addr) = some ⟨b, o, none⟩ → w.heap.size + 1 + 1 + 1 ≤ b) := Lib.hid (fun b o e => by cases e)
                clear hr0
                go_upto_region 11 with (fail)
                clear kt0 kt1 kt2 kt3 kt4 kt5 kt6 kt7 kt8 kt9 kt10 kt11 kt12 kt13 kt14
                clear b0 b1 b2 b3 b4 b5 b6 b7 b8 b9 bA bB bC
                have HBR : Hid (BK wc (w.heap.size + 1 + 1) [.slice none 0 0, .int .i64 0, .int .i64 0] 36) := Lib.hid HST.out.br
                have q0 := HBR.out.fr 0
                have q1 := HBR.out.fr 1
                have q2 := HBR.out.fr 2
                have n0 := HBR.out.cell 0
                have n1 := HBR.out.cell 1
                have n2 := HBR.out.cell 2
                simp only [List.getElem?_cons_zero, List.getElem?_cons_succ] at n0 n1 n2
                have hz2 : w.heap.size + 1 + 1 < wc.heap.size := HBR.out.lt
                repeat ((fail_if_success (with_reducible refine post_mark ?_)); go_step)
                generalize hWf : World.setCell _ ⟨w.heap.size + 1 + 1, 2, none⟩ _ = Wf
                have HFin : BK Wf (w.heap.size + 1 + 1) [.slice none (([] : List Int)).length 0, .int .i64 U, .int .i64 r] 36 := by
                  rw [← hWf]
                  have := ((HBR.out.set 0 (.slice none (([] : List Int)).length 0)).set 1 (.int .i64 U)).set 2 (.int .i64 r)
                  simp only [List.set_cons_zero, List.set_cons_succ] at this
                  exact this
                have HBT : But (wc).heap.size [w.heap.size + 1 + 1] wc Wf := by
                  rw [← hWf]
                  exact (((But.refl _ _ _).set (List.mem_singleton.2 rfl) _ _).set (List.mem_singleton.2 rfl) _ _).set (List.mem_singleton.2 rfl) _ _
                have HLF : Below w.heap.size w Wf := by
                  rw [← hWf]
                  exact bl_s (bl_s (bl_s HST.out.bl _ _) _ _) _ _
                clear hWf
                have HIF := Lib.hid (ints_but HIR.out HBT (fun b o e hm => by have := HFR.out b o e; have := List.mem_singleton.1 hm; omega))
                have HLFh := Lib.hid HLF
                have HLO : Hid (∀ b o, (none : Option Addr) = some ⟨b, o, none⟩ → w.heap.size ≤ b) := Lib.hid (fun b o e => by have := HFR.out b o e; omega)
                have v0 := HFin.cell 0
                have v1 := HFin.cell 1
                have v2 := HFin.cell 2
                simp only [List.getElem?_cons_zero, List.getElem?_cons_succ] at v0 v1 v2
                clear HLF HBT
                rw [HPF.out]
                refine bodyPost_ret (v := .agg #[.slice none (([] : List Int)).length 0, .int .i64 U, .int .i64 r]) ?_ rfl ⟨none, 0, (by first | (with_reducible rfl) | (show _ = Ending.returned (.agg #[.slice none (([] : List Int)).length 0, .int .i64 ((2 + u : Nat) : Int), .int .i64 r]); rw [Int.natCast_add, ← HU.out]; rfl) | rfl), HIF.out, HLFh.out, HLO.out⟩
                simp [results, Tryz.results11, go_sem, v0, v1, v2]
end Go.Proofs.YtjggklfegcejhaaGreat
