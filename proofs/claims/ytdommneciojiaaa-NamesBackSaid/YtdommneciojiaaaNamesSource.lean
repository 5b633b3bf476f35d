/- Contract of clewlaw15.source: the source that declares these names. -/
import Derived.Test.YtdommneciojiaaaNamesRows
namespace Go.Proofs.Ytdommneciojiaaa
open Go.RowKit Go.PlainAid
set_option linter.unusedVariables false
set_option linter.unusedSimpArgs false

theorem Try.infoPair : (Try.prog.info? 69).map (fun i => (i.zero, i.size, i.bytes)) = some (some (.agg #[.string ByteArray.empty, .int .i64 0]), 2, 24) := by kernel_rfl
theorem Try.infoObj : (Try.prog.info? 58).map (fun i => (i.zero, i.size, i.bytes)) = some (some (.agg #[.string ByteArray.empty, .string ByteArray.empty, .string ByteArray.empty, .string ByteArray.empty, .bool false, nilV, nilV, nilV, nilV, nilV]), 10, 192) := by kernel_rfl
theorem Try.infoVerb : (Try.prog.info? 72).map (fun i => (i.zero, i.size, i.bytes)) = some (some (.agg #[.string ByteArray.empty, .bool false, nilV]), 3, 48) := by kernel_rfl
theorem Try.infoFunc : (Try.prog.info? 75).map (fun i => (i.zero, i.size, i.bytes)) = some (some (.agg #[.string ByteArray.empty, nilV, nilV]), 3, 64) := by kernel_rfl

/-! ### Slices that stay though one block turns -/
theorem Reads.kept {α : Type} {c : Cd α} (hc : ∀ (w w' : World) (cs : List Value) (x : α), c.rd w cs x → c.rd w' cs x) {w w' : World} {v : Value} {xs : List α} {row : Option Nat} (h : Reads c.seq w v xs) (hg : w.grownBy w' row) (hr : ∀ j, row = some j → v.ownBlock ≠ some j) : Reads c.seq w' v xs := by
  obtain ⟨v', rows, h1, h2, h3, h4⟩ := h
  obtain rfl : v = v' := by simpa using h1
  exact ⟨v, rows, rfl, ⟨h2.1.kept hg hr, h2.2⟩, h3, fun i a b => hc _ _ _ _ (h4 i a b)⟩
/-- Rows of k cells that the call owns. -/
def OwR (T : TypeId) (k : Nat) (row : List UInt8 → List Value) (w : World) (base : Nat) (v : Value) (L : List (List UInt8)) : Prop := w.ownsRow base T k v L.length ((L.map row).flatten)
theorem OwR.nil (T : TypeId) (k : Nat) (row : List UInt8 → List Value) (w : World) (base : Nat) : OwR T k row w base (.slice none 0 0) [] := World.ownsRow_nil _ _ _ _
theorem OwR.snoc {T : TypeId} {k : Nat} {row : List UInt8 → List Value} {w : World} {base : Nat} {v : Value} {L : List (List UInt8)} {x : List UInt8} (h : w.ownsRow base T k v (L.length + 1) ((L.map row).flatten ++ row x)) : OwR T k row w base v (L ++ [x]) := by
  unfold OwR; simpa using h
theorem ow_cap {w : World} {base : Nat} {e : TypeId} {k : Nat} {v : Value} {n : Nat} {xs : List Value} (h : w.ownsRow base e k v n xs) : ∃ a c, v = .slice a n c ∧ n ≤ c := by
  rcases h.2 with ⟨rfl, rfl⟩ | ⟨g, cap, cur, rfl, _, _, hnc, _⟩
  · exact ⟨_, _, rfl, Nat.le_refl _⟩
  · exact ⟨_, _, rfl, hnc⟩
theorem OwR.reads {T : TypeId} {row : List UInt8 → List Value} {c : Cd (List UInt8)} {w : World} {base : Nat} {v : Value} {L : List (List UInt8)} (h : OwR T c.k row w base v L) (hk : ∀ x, (row x).length = c.k) (hm : L.length ≤ maxLen) (hc : ∀ x ∈ L, c.rd w (row x) x) : Reads c.seq w v L := by
  have h1 : SLN c.k w v (L.map row) := SLN.own h (by simp) (fun r hr => by obtain ⟨x, _, rfl⟩ := List.mem_map.1 hr; exact hk x) hm
  obtain ⟨a, cap, e, hle⟩ := ow_cap h
  exact ⟨v, L.map row, rfl, ⟨h1, a, cap, by simpa using e, by simpa using hle⟩, by simp, fun i h1 h2 => by simp only [List.getElem_map]; exact hc _ (List.getElem_mem h2)⟩
theorem str_open {w : World} {v : Value} {l : List (List UInt8)} (h : Reads Cd.str.seq w v l) (hn : 0 < l.length) :
    ∃ b off cap, v = .slice (some ⟨b, off, none⟩) l.length cap ∧ l.length ≤ cap ∧ b < w.heap.size ∧ ∀ i (hi : i < l.length), l[i].length ≤ maxLen ∧ w.cell? ⟨b, off + i, none⟩ = some (.string (mkB l[i])) := by
  obtain ⟨b, off, cap, h1, h2, h3, h4⟩ := h.open hn
  refine ⟨b, off, cap, h1, h2, h3, fun i hi => ?_⟩
  obtain ⟨row, r1, ⟨r2, r4⟩, r3⟩ := h4 i hi
  subst r2
  refine ⟨r4, ?_⟩
  have := r3 0 (by decide)
  rw [show Cd.str.k = 1 from rfl, Nat.mul_one, Nat.add_zero] at this
  exact this
/-- Texts that are declared: what came in. -/
structure DeclIs (w : World) (f p g o v fn dm : Value) (d : DC) : Prop where
  fl : Reads Cd.str.seq w f d.fl
  pr : Reads Cd.str.seq w p d.pr
  gl : Reads Cd.str.seq w g d.gl
  ob : Reads Cd.str.seq w o d.ob
  ve : Reads Cd.str.seq w v d.ve
  fu : Reads Cd.str.seq w fn d.fu
  da : Reads Cd.str.seq w dm d.da
theorem DeclIs.below {w w' : World} {f p g o v fn dm : Value} {d : DC} (h : DeclIs w f p g o v fn dm d) (hb : Below w.heap.size w w') : DeclIs w' f p g o v fn dm d :=
  ⟨h.fl.below hb, h.pr.below hb, h.gl.below hb, h.ob.below hb, h.ve.below hb, h.fu.below hb, h.da.below hb⟩
def declV (f p g o v fn dm : Value) : Value := .agg #[f, p, g, o, v, fn, dm]
/-- What source's variables hold: the block of what came in, of the result, of s. -/
structure SoS (w W : World) (d7 : List Value) (s13 : List Value) : Prop where
  bd : BK W w.heap.size d7 24
  br : BK W (w.heap.size + 1) [.string ⟨#[]⟩, .string ⟨#[]⟩, .string ⟨#[]⟩, .int .i64 0, .int .i64 0, nilV, nilV, nilV, nilV, nilV, nilV, nilV, nilV] 39
  bs : BK W (w.heap.size + 2) s13 39
  bel : Below w.heap.size w W
/-- Behind an append to a list that lies above, and its storing. -/
theorem SoS.step {w W wr w5 : World} {d7 s13 : List Value} {v : Value} {o : Obj} (h : SoS w wr d7 s13) (hW : w.heap.size + 3 ≤ W.heap.size) (hWr : W.heap.size ≤ wr.heap.size) (hg : (wr.alloc o).grownBy w5 v.ownBlock) (hlo : ∀ k, v.ownBlock = some k → W.heap.size ≤ k) (k : Nat) (u : Value) :
    SoS w (w5.setCell ⟨w.heap.size + 2, k, none⟩ u) d7 (s13.set k u) := by
  have hk := fun (j : Nat) (hj : v.ownBlock = some j) (c : Nat) (hc : c < w.heap.size + 3) => (show j ≠ c by have := hlo j hj; omega)
  refine ⟨?_, ?_, ?_, ?_⟩
  · exact ((h.bd.alloc o).kept hg (fun j hj => hk j hj _ (by omega))).setO (by omega) _ _
  · exact ((h.br.alloc o).kept hg (fun j hj => hk j hj _ (by omega))).setO (by omega) _ _
  · exact ((h.bs.alloc o).kept hg (fun j hj => hk j hj _ (by omega))).set _ _
  · exact bl_s (bl_g (bl_a h.bel _) hg (fun j hj => by have := hlo j hj; omega)) _ _
theorem gr_step {w W wr w5 : World} {v : Value} {o : Obj} (h : W.grownBy wr (some (w.heap.size + 2))) (hg : (wr.alloc o).grownBy w5 v.ownBlock) (hlo : ∀ k, v.ownBlock = some k → W.heap.size ≤ k) (k : Nat) (u : Value) :
    W.grownBy (w5.setCell ⟨w.heap.size + 2, k, none⟩ u) (some (w.heap.size + 2)) :=
  gr_trans (gr_new (gr_trans h (gr_alloc _ o _)) hg hlo) (gr_set _ _ _ _)
theorem one_all {l : List Value} (h : (l.all fun u => u.oneCell') = true) : ∀ u ∈ l, u.oneCell' = true := List.all_eq_true.1 h
/-- What s holds. -/
def sC (f p g o v fn dm : Value) : List Value := [.string ⟨#[]⟩, .string ⟨#[]⟩, .string ⟨#[]⟩, .int .i64 0, .int .i64 0, f, p, g, o, v, nilV, fn, dm]

theorem results_cell {fn : Func} {p : Tmp} {ty : TypeId} (h : fn.results = #[.cell p ty]) (tmps : Array Value) (P : Program) (w : World) :
    (results fn tmps).run P w = ((asAddr (tmps.getD p undef)).run P w).andThen fun a w₁ => (loadVar ty a).run P w₁ := by
  simp only [results, h]
  simp [Sem.run_bind, Result.andThen]
theorem str_all {w : World} {v : Value} {l : List (List UInt8)} (h : Reads Cd.str.seq w v l) : ∀ x ∈ l, x.length ≤ maxLen := by
  intro x hx
  obtain ⟨i, hi, rfl⟩ := List.getElem_of_mem hx
  obtain ⟨v', rows, h1, h2, h3, h4⟩ := h
  exact (h4 i (by omega) hi).2
theorem lift_reads {α : Type} {c : Cd α} {a b F : World} {v : Value} {xs : List α} {B R base : Nat} (hc : ∀ (w w' : World) (cs : List Value) (x : α), c.rd w cs x → c.rd w' cs x) (h : Reads c.seq a v xs) (hg : a.grownBy b (some B)) (hF : b.grownBy F (some R)) (hlo : ∀ k, v.ownBlock = some k → base ≤ k) (hB : B < base) (hR : R < base) : Reads c.seq F v xs :=
  (h.kept hc hg (fun j hj e => by have := hlo j e; have := Option.some.inj hj; omega)).kept hc hF (fun j hj e => by have := hlo j e; have := Option.some.inj hj; omega)
set_option maxRecDepth 100000 in
set_option maxHeartbeats 16000000 in
theorem lawSource (f p g o v fn dm : Value) (d : DC) (w : World) (hs : DeclIs w f p g o v fn dm d) (hd : d.few 100000) :
    Calls Try.prog 11 #[declV f p g o v fn dm] w fun e w' => ∃ f' p' g' o' v' fn' dm', e = .returned (srcV f' p' g' o' v' fn' dm') ∧ SrcIs w' f' p' g' o' v' fn' dm' d ∧ Below w.heap.size w w' := by
  have HD := Lib.hid hs
  obtain ⟨a1, c1, h1, g1, m1⟩ := hs.fl.len
  obtain ⟨a2, c2, h2, g2, m2⟩ := hs.pr.len
  obtain ⟨a3, c3, h3, g3, m3⟩ := hs.gl.len
  obtain ⟨a4, c4, h4, g4, m4⟩ := hs.ob.len
  obtain ⟨a5, c5, h5, g5, m5⟩ := hs.ve.len
  obtain ⟨a6, c6, h6, g6, m6⟩ := hs.fu.len
  obtain ⟨a7, c7, h7, g7, m7⟩ := hs.da.len
  subst h1 h2 h3 h4 h5 h6 h7
  obtain ⟨q1, q2, q3, q4, q5, q6, q7⟩ := hd
  clear hs
  obtain ⟨iPair, hiPair, hz0Pair, hz1Pair, hz2Pair⟩ := info_parts Try.infoPair
  obtain ⟨iObject, hiObject, hz0Object, hz1Object, hz2Object⟩ := info_parts Try.infoObj
  obtain ⟨iVerb, hiVerb, hz0Verb, hz1Verb, hz2Verb⟩ := info_parts Try.infoVerb
  obtain ⟨iFunc, hiFunc, hz0Func, hz1Func, hz2Func⟩ := info_parts Try.infoFunc
  obtain ⟨D7, hD7⟩ : ∃ D7 : List Value, D7 = [.slice a1 d.fl.length c1, .slice a2 d.pr.length c2, .slice a3 d.gl.length c3, .slice a4 d.ob.length c4, .slice a5 d.ve.length c5, .slice a6 d.fu.length c6, .slice a7 d.da.length c7] := ⟨_, rfl⟩
  have HD7 := Lib.hid hD7
  clear hD7
  unfold declV
  go_enter Try.func11, Try.ntmps11
  go_wp2
  obtain ⟨W0, hW0⟩ : ∃ W0, ((w.alloc (.cells #[.slice a1 d.fl.length c1, .slice a2 d.pr.length c2, .slice a3 d.gl.length c3, .slice a4 d.ob.length c4, .slice a5 d.ve.length c5, .slice a6 d.fu.length c6, .slice a7 d.da.length c7] 24)).alloc (.cells (sC nilV nilV nilV nilV nilV nilV nilV).toArray 39)).alloc (.cells (sC (.slice a1 d.fl.length c1) nilV nilV nilV nilV nilV nilV).toArray 39) = W0 := ⟨_, rfl⟩
  have HSW0 : Hid (SoS w W0 D7 (sC (.slice a1 d.fl.length c1) nilV nilV nilV nilV nilV nilV)) := Lib.hid (by
    rw [← hW0, HD7.out]
    have e1 : ((w.alloc (.cells #[.slice a1 d.fl.length c1, .slice a2 d.pr.length c2, .slice a3 d.gl.length c3, .slice a4 d.ob.length c4, .slice a5 d.ve.length c5, .slice a6 d.fu.length c6, .slice a7 d.da.length c7] 24))).heap.size = w.heap.size + 1 := by simp
    have e2 : ((w.alloc (.cells #[.slice a1 d.fl.length c1, .slice a2 d.pr.length c2, .slice a3 d.gl.length c3, .slice a4 d.ob.length c4, .slice a5 d.ve.length c5, .slice a6 d.fu.length c6, .slice a7 d.da.length c7] 24)).alloc (.cells (sC nilV nilV nilV nilV nilV nilV nilV).toArray 39)).heap.size = w.heap.size + 2 := by simp
    refine ⟨((BK.new w _ _).alloc _).alloc _, ?_, ?_, bl_a (bl_a (bl_a (Below.refl _ _) _) _) _⟩
    · have := BK.new (w.alloc (.cells #[.slice a1 d.fl.length c1, .slice a2 d.pr.length c2, .slice a3 d.gl.length c3, .slice a4 d.ob.length c4, .slice a5 d.ve.length c5, .slice a6 d.fu.length c6, .slice a7 d.da.length c7] 24)) (sC nilV nilV nilV nilV nilV nilV nilV) 39
      rw [e1] at this
      exact this.alloc _
    · have := BK.new ((w.alloc (.cells #[.slice a1 d.fl.length c1, .slice a2 d.pr.length c2, .slice a3 d.gl.length c3, .slice a4 d.ob.length c4, .slice a5 d.ve.length c5, .slice a6 d.fu.length c6, .slice a7 d.da.length c7] 24)).alloc (.cells (sC nilV nilV nilV nilV nilV nilV nilV).toArray 39)) (sC (.slice a1 d.fl.length c1) nilV nilV nilV nilV nilV nilV) 39
      rw [e2] at this
      exact this)
  have hzW0 : w.heap.size + 3 ≤ W0.heap.size := HSW0.out.bs.lt
  unfold sC at hW0
  rw [hW0]
  clear hW0
  go_loopw [22] (fun i wr1 => ∃ (p : Nat) (v : Value), i = .int .i64 p ∧ p ≤ d.pr.length ∧ Hid (SoS w wr1 D7 (sC (.slice a1 d.fl.length c1) v nilV nilV nilV nilV nilV)) ∧ Hid (W0.grownBy wr1 (some (w.heap.size + 2))) ∧ Hid (OwR 69 2 (fun x => pairRow x 7) wr1 W0.heap.size v (d.pr.take p))) (fun i _ => d.pr.length - (intOf i).toNat)
  case atStart => exact ⟨0, nilV, rfl, Nat.zero_le _, HSW0, Lib.hid (gr_refl _ _), Lib.hid (OwR.nil _ _ _ _ _)⟩
  case round =>
    obtain ⟨wr1, hwr⟩ : ∃ x, x = wr := ⟨_, rfl⟩
    subst hwr
    obtain ⟨p, v, rfl, hpl, hSo, hG, hO⟩ := hrel
    obtain ⟨va1, vc1, hv⟩ := ow_shape hO.out
    have htl : (d.pr.take p).length = p := by simp; omega
    rw [htl] at hv
    subst hv
    have k1 := hSo.out.bs.cell 6
    have k2 := hSo.out.bs.fr 6
    simp only [sC, List.getElem?_cons_zero, List.getElem?_cons_succ] at k1
    have hsz := hG.out.size
    by_cases hlt : p < d.pr.length
    · obtain ⟨b, off, cap, hv, hcap, hblt, hcell⟩ := str_open HD.out.pr (by omega)
      have hac : a2 = some ⟨b, off, none⟩ := by simp at hv; exact hv.1
      subst hac
      obtain ⟨hrm, hrc⟩ := hcell p hlt
      have HT : Hid (d.pr.take (p + 1) = d.pr.take p ++ [d.pr[p]]) := Lib.hid (List.take_succ_eq_append_getElem hlt)
      generalize d.pr[p] = n at hrc hrm HT
      have e0 := (hSo.out.bel.cell (p := ⟨b, off + p, none⟩) hblt).trans hrc
      have HO2 : Hid (wr1.ownsRow W0.heap.size 69 2 (.slice va1 p vc1) p ((d.pr.take p).map (fun x => pairRow x 7)).flatten) := Lib.hid (by have := hO.out; unfold OwR at this; rwa [htl] at this)
      have hb1 : p + 1 ≤ maxLen ∧ (p + 1) * 24 ≤ 140737488355328 := by unfold maxLen; omega
      have HKB := fun (o : Obj) (w5 : World) (hg : (wr1.alloc o).grownBy w5 (Value.slice va1 p vc1).ownBlock) => (hSo.out.bs.alloc o).kept hg (fun j hj => by have := ow_lo HO2.out j hj; omega)
      have HKBh := Lib.hid HKB
      clear hrc hcell hv htl HKB
      go_wp2_with (at_builtin; refine wpList_append_own _ rfl _ _ 33 rfl W0.heap.size 69 iPair _ 2 24 Try.underlying33 hiPair hz0Pair hz1Pair hz2Pair rfl (by decide) (.slice va1 p vc1) p ((d.pr.take p).map (fun x => pairRow x 7)).flatten rfl (HO2.out.alloc _) ⟨wr1.heap.size, 0, none⟩ 1 1 (pairRow n 7) rfl rfl (news_lit wr1 (pairRow n 7) _) (one_all rfl) hb1.1 hb1.2 (ow_le hsz _) ?_; intro v5 w5 hown5 hgrow5 _; obtain ⟨a5, c5, hv5⟩ := ow_shape hown5; subst hv5; have kb := HKBh.out _ _ hgrow5; have cb := kb.cell 6; have fb := kb.fr 6; simp only [sC, List.getElem?_cons_zero, List.getElem?_cons_succ] at cb; clear kb)
      have HS5 := Lib.hid (hSo.out.step (W := W0) (by omega) hsz hgrow5 (ow_lo HO2.out) 6 (.slice a5 (p + 1) c5))
      have HG5 := Lib.hid (gr_step hG.out hgrow5 (ow_lo HO2.out) 6 (.slice a5 (p + 1) c5))
      have HO5 : Hid (OwR 69 2 (fun x => pairRow x 7) (w5.setCell ⟨w.heap.size + 2, 6, none⟩ (.slice a5 (p + 1) c5)) W0.heap.size (.slice a5 (p + 1) c5) (d.pr.take (p + 1))) := Lib.hid (by
        rw [HT.out]
        refine ow_grown (OwR.snoc (row := fun x => pairRow x 7) ?_) (gr_set _ _ _ _) (fun j hj => by have := Option.some.inj hj; omega)
        have htl : (d.pr.take p).length = p := by simp; omega
        rw [htl]; exact hown5)
      clear hown5 hgrow5 cb fb
      go_wp2
      go_roundw
      case rel => exact ⟨p + 1, _, by go_num, by omega, HS5, HG5, HO5⟩
      case measure => simp [intOf]; omega
    · have hpe : p = d.pr.length := by omega
      subst hpe
      rw [List.take_length] at hO
      have HSwr1 := hSo
      have HG1 := hG
      have HO1 := hO
      have hzwr1 : w.heap.size + 3 ≤ wr1.heap.size := hSo.out.bs.lt
      clear hSo hG hO k1 k2 hsz htl hpl hlt
      have kd := HSwr1.out.bd.cell 2
      rw [HD7.out] at kd
      simp only [List.getElem?_cons_zero, List.getElem?_cons_succ] at kd
      go_wp2
      clear kd
      go_loopw [37] (fun i wr2 => ∃ (p : Nat) (v : Value), i = .int .i64 p ∧ p ≤ d.gl.length ∧ Hid (SoS w wr2 D7 (sC (.slice a1 d.fl.length c1) (.slice va1 d.pr.length vc1) v nilV nilV nilV nilV)) ∧ Hid (wr1.grownBy wr2 (some (w.heap.size + 2))) ∧ Hid (OwR 69 2 (fun x => pairRow x 0) wr2 wr1.heap.size v (d.gl.take p))) (fun i _ => d.gl.length - (intOf i).toNat)
      case atStart => exact ⟨0, nilV, rfl, Nat.zero_le _, HSwr1, Lib.hid (gr_refl _ _), Lib.hid (OwR.nil _ _ _ _ _)⟩
      case round =>
        obtain ⟨wr2, hwr⟩ : ∃ x, x = wr := ⟨_, rfl⟩
        subst hwr
        obtain ⟨p, v, rfl, hpl, hSo, hG, hO⟩ := hrel
        obtain ⟨va2, vc2, hv⟩ := ow_shape hO.out
        have htl : (d.gl.take p).length = p := by simp; omega
        rw [htl] at hv
        subst hv
        have k1 := hSo.out.bs.cell 7
        have k2 := hSo.out.bs.fr 7
        simp only [sC, List.getElem?_cons_zero, List.getElem?_cons_succ] at k1
        have hsz := hG.out.size
        by_cases hlt : p < d.gl.length
        · obtain ⟨b, off, cap, hv, hcap, hblt, hcell⟩ := str_open HD.out.gl (by omega)
          have hac : a3 = some ⟨b, off, none⟩ := by simp at hv; exact hv.1
          subst hac
          obtain ⟨hrm, hrc⟩ := hcell p hlt
          have HT : Hid (d.gl.take (p + 1) = d.gl.take p ++ [d.gl[p]]) := Lib.hid (List.take_succ_eq_append_getElem hlt)
          generalize d.gl[p] = n at hrc hrm HT
          have e0 := (hSo.out.bel.cell (p := ⟨b, off + p, none⟩) hblt).trans hrc
          have HO2 : Hid (wr2.ownsRow wr1.heap.size 69 2 (.slice va2 p vc2) p ((d.gl.take p).map (fun x => pairRow x 0)).flatten) := Lib.hid (by have := hO.out; unfold OwR at this; rwa [htl] at this)
          have hb1 : p + 1 ≤ maxLen ∧ (p + 1) * 24 ≤ 140737488355328 := by unfold maxLen; omega
          have HKB := fun (o : Obj) (w5 : World) (hg : (wr2.alloc o).grownBy w5 (Value.slice va2 p vc2).ownBlock) => (hSo.out.bs.alloc o).kept hg (fun j hj => by have := ow_lo HO2.out j hj; omega)
          have HKBh := Lib.hid HKB
          clear hrc hcell hv htl HKB
          go_wp2_with (at_builtin; refine wpList_append_own _ rfl _ _ 33 rfl wr1.heap.size 69 iPair _ 2 24 Try.underlying33 hiPair hz0Pair hz1Pair hz2Pair rfl (by decide) (.slice va2 p vc2) p ((d.gl.take p).map (fun x => pairRow x 0)).flatten rfl (HO2.out.alloc _) ⟨wr2.heap.size, 0, none⟩ 1 1 (pairRow n 0) rfl rfl (news_lit wr2 (pairRow n 0) _) (one_all rfl) hb1.1 hb1.2 (ow_le hsz _) ?_; intro v5 w5 hown5 hgrow5 _; obtain ⟨a5, c5, hv5⟩ := ow_shape hown5; subst hv5; have kb := HKBh.out _ _ hgrow5; have cb := kb.cell 7; have fb := kb.fr 7; simp only [sC, List.getElem?_cons_zero, List.getElem?_cons_succ] at cb; clear kb)
          have HS5 := Lib.hid (hSo.out.step (W := wr1) (by omega) hsz hgrow5 (ow_lo HO2.out) 7 (.slice a5 (p + 1) c5))
          have HG5 := Lib.hid (gr_step hG.out hgrow5 (ow_lo HO2.out) 7 (.slice a5 (p + 1) c5))
          have HO5 : Hid (OwR 69 2 (fun x => pairRow x 0) (w5.setCell ⟨w.heap.size + 2, 7, none⟩ (.slice a5 (p + 1) c5)) wr1.heap.size (.slice a5 (p + 1) c5) (d.gl.take (p + 1))) := Lib.hid (by
            rw [HT.out]
            refine ow_grown (OwR.snoc (row := fun x => pairRow x 0) ?_) (gr_set _ _ _ _) (fun j hj => by have := Option.some.inj hj; omega)
            have htl : (d.gl.take p).length = p := by simp; omega
            rw [htl]; exact hown5)
          clear hown5 hgrow5 cb fb
          go_wp2
          go_roundw
          case rel => exact ⟨p + 1, _, by go_num, by omega, HS5, HG5, HO5⟩
          case measure => simp [intOf]; omega
        · have hpe : p = d.gl.length := by omega
          subst hpe
          rw [List.take_length] at hO
          have HSwr2 := hSo
          have HG2 := hG
          have HO2 := hO
          have hzwr2 : w.heap.size + 3 ≤ wr2.heap.size := hSo.out.bs.lt
          clear hSo hG hO k1 k2 hsz htl hpl hlt
          have kd := HSwr2.out.bd.cell 3
          rw [HD7.out] at kd
          simp only [List.getElem?_cons_zero, List.getElem?_cons_succ] at kd
          go_wp2
          clear kd
          go_loopw [52] (fun i wr3 => ∃ (p : Nat) (v : Value), i = .int .i64 p ∧ p ≤ d.ob.length ∧ Hid (SoS w wr3 D7 (sC (.slice a1 d.fl.length c1) (.slice va1 d.pr.length vc1) (.slice va2 d.gl.length vc2) v nilV nilV nilV)) ∧ Hid (wr2.grownBy wr3 (some (w.heap.size + 2))) ∧ Hid (OwR 58 10 (fun x => objRow x (mkB x)) wr3 wr2.heap.size v (d.ob.take p))) (fun i _ => d.ob.length - (intOf i).toNat)
          case atStart => exact ⟨0, nilV, rfl, Nat.zero_le _, HSwr2, Lib.hid (gr_refl _ _), Lib.hid (OwR.nil _ _ _ _ _)⟩
          case round =>
            obtain ⟨wr3, hwr⟩ : ∃ x, x = wr := ⟨_, rfl⟩
            subst hwr
            obtain ⟨p, v, rfl, hpl, hSo, hG, hO⟩ := hrel
            obtain ⟨va3, vc3, hv⟩ := ow_shape hO.out
            have htl : (d.ob.take p).length = p := by simp; omega
            rw [htl] at hv
            subst hv
            have k1 := hSo.out.bs.cell 8
            have k2 := hSo.out.bs.fr 8
            simp only [sC, List.getElem?_cons_zero, List.getElem?_cons_succ] at k1
            have hsz := hG.out.size
            by_cases hlt : p < d.ob.length
            · obtain ⟨b, off, cap, hv, hcap, hblt, hcell⟩ := str_open HD.out.ob (by omega)
              have hac : a4 = some ⟨b, off, none⟩ := by simp at hv; exact hv.1
              subst hac
              obtain ⟨hrm, hrc⟩ := hcell p hlt
              have HT : Hid (d.ob.take (p + 1) = d.ob.take p ++ [d.ob[p]]) := Lib.hid (List.take_succ_eq_append_getElem hlt)
              generalize d.ob[p] = n at hrc hrm HT
              have e0 := (hSo.out.bel.cell (p := ⟨b, off + p, none⟩) hblt).trans hrc
              have HO2 : Hid (wr3.ownsRow wr2.heap.size 58 10 (.slice va3 p vc3) p ((d.ob.take p).map (fun x => objRow x (mkB x))).flatten) := Lib.hid (by have := hO.out; unfold OwR at this; rwa [htl] at this)
              have hb1 : p + 1 ≤ maxLen ∧ (p + 1) * 192 ≤ 140737488355328 := by unfold maxLen; omega
              have HKB := fun (o : Obj) (w5 : World) (hg : (wr3.alloc o).grownBy w5 (Value.slice va3 p vc3).ownBlock) => (hSo.out.bs.alloc o).kept hg (fun j hj => by have := ow_lo HO2.out j hj; omega)
              have HKBh := Lib.hid HKB
              clear hrc hcell hv htl HKB
              go_wp2_with (at_builtin; refine wpList_append_own _ rfl _ _ 34 rfl wr2.heap.size 58 iObject _ 10 192 Try.underlying34 hiObject hz0Object hz1Object hz2Object rfl (by decide) (.slice va3 p vc3) p ((d.ob.take p).map (fun x => objRow x (mkB x))).flatten rfl (HO2.out.alloc _) ⟨wr3.heap.size, 0, none⟩ 1 1 (objRow n (mkB n)) rfl rfl (news_lit wr3 (objRow n (mkB n)) _) (one_all rfl) hb1.1 hb1.2 (ow_le hsz _) ?_; intro v5 w5 hown5 hgrow5 _; obtain ⟨a5, c5, hv5⟩ := ow_shape hown5; subst hv5; have kb := HKBh.out _ _ hgrow5; have cb := kb.cell 8; have fb := kb.fr 8; simp only [sC, List.getElem?_cons_zero, List.getElem?_cons_succ] at cb; clear kb)
              have HS5 := Lib.hid (hSo.out.step (W := wr2) (by omega) hsz hgrow5 (ow_lo HO2.out) 8 (.slice a5 (p + 1) c5))
              have HG5 := Lib.hid (gr_step hG.out hgrow5 (ow_lo HO2.out) 8 (.slice a5 (p + 1) c5))
              have HO5 : Hid (OwR 58 10 (fun x => objRow x (mkB x)) (w5.setCell ⟨w.heap.size + 2, 8, none⟩ (.slice a5 (p + 1) c5)) wr2.heap.size (.slice a5 (p + 1) c5) (d.ob.take (p + 1))) := Lib.hid (by
                rw [HT.out]
                refine ow_grown (OwR.snoc (row := fun x => objRow x (mkB x)) ?_) (gr_set _ _ _ _) (fun j hj => by have := Option.some.inj hj; omega)
                have htl : (d.ob.take p).length = p := by simp; omega
                rw [htl]; exact hown5)
              clear hown5 hgrow5 cb fb
              go_wp2
              go_roundw
              case rel => exact ⟨p + 1, _, by go_num, by omega, HS5, HG5, HO5⟩
              case measure => simp [intOf]; omega
            · have hpe : p = d.ob.length := by omega
              subst hpe
              rw [List.take_length] at hO
              have HSwr3 := hSo
              have HG3 := hG
              have HO3 := hO
              have hzwr3 : w.heap.size + 3 ≤ wr3.heap.size := hSo.out.bs.lt
              clear hSo hG hO k1 k2 hsz htl hpl hlt
              have kd := HSwr3.out.bd.cell 4
              rw [HD7.out] at kd
              simp only [List.getElem?_cons_zero, List.getElem?_cons_succ] at kd
              go_wp2
              clear kd
              go_loopw [68] (fun i wr4 => ∃ (p : Nat) (v : Value), i = .int .i64 p ∧ p ≤ d.ve.length ∧ Hid (SoS w wr4 D7 (sC (.slice a1 d.fl.length c1) (.slice va1 d.pr.length vc1) (.slice va2 d.gl.length vc2) (.slice va3 d.ob.length vc3) v nilV nilV)) ∧ Hid (wr3.grownBy wr4 (some (w.heap.size + 2))) ∧ Hid (OwR 72 3 (fun x => verbRow x ()) wr4 wr3.heap.size v (d.ve.take p))) (fun i _ => d.ve.length - (intOf i).toNat)
              case atStart => exact ⟨0, nilV, rfl, Nat.zero_le _, HSwr3, Lib.hid (gr_refl _ _), Lib.hid (OwR.nil _ _ _ _ _)⟩
              case round =>
                obtain ⟨wr4, hwr⟩ : ∃ x, x = wr := ⟨_, rfl⟩
                subst hwr
                obtain ⟨p, v, rfl, hpl, hSo, hG, hO⟩ := hrel
                obtain ⟨va4, vc4, hv⟩ := ow_shape hO.out
                have htl : (d.ve.take p).length = p := by simp; omega
                rw [htl] at hv
                subst hv
                have k1 := hSo.out.bs.cell 9
                have k2 := hSo.out.bs.fr 9
                simp only [sC, List.getElem?_cons_zero, List.getElem?_cons_succ] at k1
                have hsz := hG.out.size
                by_cases hlt : p < d.ve.length
                · obtain ⟨b, off, cap, hv, hcap, hblt, hcell⟩ := str_open HD.out.ve (by omega)
                  have hac : a5 = some ⟨b, off, none⟩ := by simp at hv; exact hv.1
                  subst hac
                  obtain ⟨hrm, hrc⟩ := hcell p hlt
                  have HT : Hid (d.ve.take (p + 1) = d.ve.take p ++ [d.ve[p]]) := Lib.hid (List.take_succ_eq_append_getElem hlt)
                  generalize d.ve[p] = n at hrc hrm HT
                  have e0 := (hSo.out.bel.cell (p := ⟨b, off + p, none⟩) hblt).trans hrc
                  have HO2 : Hid (wr4.ownsRow wr3.heap.size 72 3 (.slice va4 p vc4) p ((d.ve.take p).map (fun x => verbRow x ())).flatten) := Lib.hid (by have := hO.out; unfold OwR at this; rwa [htl] at this)
                  have hb1 : p + 1 ≤ maxLen ∧ (p + 1) * 48 ≤ 140737488355328 := by unfold maxLen; omega
                  have HKB := fun (o : Obj) (w5 : World) (hg : (wr4.alloc o).grownBy w5 (Value.slice va4 p vc4).ownBlock) => (hSo.out.bs.alloc o).kept hg (fun j hj => by have := ow_lo HO2.out j hj; omega)
                  have HKBh := Lib.hid HKB
                  clear hrc hcell hv htl HKB
                  go_wp2_with (at_builtin; refine wpList_append_own _ rfl _ _ 35 rfl wr3.heap.size 72 iVerb _ 3 48 Try.underlying35 hiVerb hz0Verb hz1Verb hz2Verb rfl (by decide) (.slice va4 p vc4) p ((d.ve.take p).map (fun x => verbRow x ())).flatten rfl (HO2.out.alloc _) ⟨wr4.heap.size, 0, none⟩ 1 1 (verbRow n ()) rfl rfl (news_lit wr4 (verbRow n ()) _) (one_all rfl) hb1.1 hb1.2 (ow_le hsz _) ?_; intro v5 w5 hown5 hgrow5 _; obtain ⟨a5, c5, hv5⟩ := ow_shape hown5; subst hv5; have kb := HKBh.out _ _ hgrow5; have cb := kb.cell 9; have fb := kb.fr 9; simp only [sC, List.getElem?_cons_zero, List.getElem?_cons_succ] at cb; clear kb)
                  have HS5 := Lib.hid (hSo.out.step (W := wr3) (by omega) hsz hgrow5 (ow_lo HO2.out) 9 (.slice a5 (p + 1) c5))
                  have HG5 := Lib.hid (gr_step hG.out hgrow5 (ow_lo HO2.out) 9 (.slice a5 (p + 1) c5))
                  have HO5 : Hid (OwR 72 3 (fun x => verbRow x ()) (w5.setCell ⟨w.heap.size + 2, 9, none⟩ (.slice a5 (p + 1) c5)) wr3.heap.size (.slice a5 (p + 1) c5) (d.ve.take (p + 1))) := Lib.hid (by
                    rw [HT.out]
                    refine ow_grown (OwR.snoc (row := fun x => verbRow x ()) ?_) (gr_set _ _ _ _) (fun j hj => by have := Option.some.inj hj; omega)
                    have htl : (d.ve.take p).length = p := by simp; omega
                    rw [htl]; exact hown5)
                  clear hown5 hgrow5 cb fb
                  go_wp2
                  go_roundw
                  case rel => exact ⟨p + 1, _, by go_num, by omega, HS5, HG5, HO5⟩
                  case measure => simp [intOf]; omega
                · have hpe : p = d.ve.length := by omega
                  subst hpe
                  rw [List.take_length] at hO
                  have HSwr4 := hSo
                  have HG4 := hG
                  have HO4 := hO
                  have hzwr4 : w.heap.size + 3 ≤ wr4.heap.size := hSo.out.bs.lt
                  clear hSo hG hO k1 k2 hsz htl hpl hlt
                  have kd := HSwr4.out.bd.cell 5
                  rw [HD7.out] at kd
                  simp only [List.getElem?_cons_zero, List.getElem?_cons_succ] at kd
                  go_wp2
                  clear kd
                  go_loopw [83] (fun i wr5 => ∃ (p : Nat) (v : Value), i = .int .i64 p ∧ p ≤ d.fu.length ∧ Hid (SoS w wr5 D7 (sC (.slice a1 d.fl.length c1) (.slice va1 d.pr.length vc1) (.slice va2 d.gl.length vc2) (.slice va3 d.ob.length vc3) (.slice va4 d.ve.length vc4) v nilV)) ∧ Hid (wr4.grownBy wr5 (some (w.heap.size + 2))) ∧ Hid (OwR 75 3 (fun x => funcRow x ()) wr5 wr4.heap.size v (d.fu.take p))) (fun i _ => d.fu.length - (intOf i).toNat)
                  case atStart => exact ⟨0, nilV, rfl, Nat.zero_le _, HSwr4, Lib.hid (gr_refl _ _), Lib.hid (OwR.nil _ _ _ _ _)⟩
                  case round =>
                    obtain ⟨wr5, hwr⟩ : ∃ x, x = wr := ⟨_, rfl⟩
                    subst hwr
                    obtain ⟨p, v, rfl, hpl, hSo, hG, hO⟩ := hrel
                    obtain ⟨va5, vc5, hv⟩ := ow_shape hO.out
                    have htl : (d.fu.take p).length = p := by simp; omega
                    rw [htl] at hv
                    subst hv
                    have k1 := hSo.out.bs.cell 11
                    have k2 := hSo.out.bs.fr 11
                    simp only [sC, List.getElem?_cons_zero, List.getElem?_cons_succ] at k1
                    have hsz := hG.out.size
                    by_cases hlt : p < d.fu.length
                    · obtain ⟨b, off, cap, hv, hcap, hblt, hcell⟩ := str_open HD.out.fu (by omega)
                      have hac : a6 = some ⟨b, off, none⟩ := by simp at hv; exact hv.1
                      subst hac
                      obtain ⟨hrm, hrc⟩ := hcell p hlt
                      have HT : Hid (d.fu.take (p + 1) = d.fu.take p ++ [d.fu[p]]) := Lib.hid (List.take_succ_eq_append_getElem hlt)
                      generalize d.fu[p] = n at hrc hrm HT
                      have e0 := (hSo.out.bel.cell (p := ⟨b, off + p, none⟩) hblt).trans hrc
                      have HO2 : Hid (wr5.ownsRow wr4.heap.size 75 3 (.slice va5 p vc5) p ((d.fu.take p).map (fun x => funcRow x ())).flatten) := Lib.hid (by have := hO.out; unfold OwR at this; rwa [htl] at this)
                      have hb1 : p + 1 ≤ maxLen ∧ (p + 1) * 64 ≤ 140737488355328 := by unfold maxLen; omega
                      have HKB := fun (o : Obj) (w5 : World) (hg : (wr5.alloc o).grownBy w5 (Value.slice va5 p vc5).ownBlock) => (hSo.out.bs.alloc o).kept hg (fun j hj => by have := ow_lo HO2.out j hj; omega)
                      have HKBh := Lib.hid HKB
                      clear hrc hcell hv htl HKB
                      go_wp2_with (at_builtin; refine wpList_append_own _ rfl _ _ 37 rfl wr4.heap.size 75 iFunc _ 3 64 Try.underlying37 hiFunc hz0Func hz1Func hz2Func rfl (by decide) (.slice va5 p vc5) p ((d.fu.take p).map (fun x => funcRow x ())).flatten rfl (HO2.out.alloc _) ⟨wr5.heap.size, 0, none⟩ 1 1 (funcRow n ()) rfl rfl (news_lit wr5 (funcRow n ()) _) (one_all rfl) hb1.1 hb1.2 (ow_le hsz _) ?_; intro v5 w5 hown5 hgrow5 _; obtain ⟨a5, c5, hv5⟩ := ow_shape hown5; subst hv5; have kb := HKBh.out _ _ hgrow5; have cb := kb.cell 11; have fb := kb.fr 11; simp only [sC, List.getElem?_cons_zero, List.getElem?_cons_succ] at cb; clear kb)
                      have HS5 := Lib.hid (hSo.out.step (W := wr4) (by omega) hsz hgrow5 (ow_lo HO2.out) 11 (.slice a5 (p + 1) c5))
                      have HG5 := Lib.hid (gr_step hG.out hgrow5 (ow_lo HO2.out) 11 (.slice a5 (p + 1) c5))
                      have HO5 : Hid (OwR 75 3 (fun x => funcRow x ()) (w5.setCell ⟨w.heap.size + 2, 11, none⟩ (.slice a5 (p + 1) c5)) wr4.heap.size (.slice a5 (p + 1) c5) (d.fu.take (p + 1))) := Lib.hid (by
                        rw [HT.out]
                        refine ow_grown (OwR.snoc (row := fun x => funcRow x ()) ?_) (gr_set _ _ _ _) (fun j hj => by have := Option.some.inj hj; omega)
                        have htl : (d.fu.take p).length = p := by simp; omega
                        rw [htl]; exact hown5)
                      clear hown5 hgrow5 cb fb
                      go_wp2
                      go_roundw
                      case rel => exact ⟨p + 1, _, by go_num, by omega, HS5, HG5, HO5⟩
                      case measure => simp [intOf]; omega
                    · have hpe : p = d.fu.length := by omega
                      subst hpe
                      rw [List.take_length] at hO
                      have HSwr5 := hSo
                      have HG5 := hG
                      have HO5 := hO
                      have hzwr5 : w.heap.size + 3 ≤ wr5.heap.size := hSo.out.bs.lt
                      clear hSo hG hO k1 k2 hsz htl hpl hlt
                      have kd := HSwr5.out.bd.cell 6
                      rw [HD7.out] at kd
                      simp only [List.getElem?_cons_zero, List.getElem?_cons_succ] at kd
                      go_wp2
                      clear kd
                      go_loopw [98] (fun i wr6 => ∃ (p : Nat) (v : Value), i = .int .i64 p ∧ p ≤ d.da.length ∧ Hid (SoS w wr6 D7 (sC (.slice a1 d.fl.length c1) (.slice va1 d.pr.length vc1) (.slice va2 d.gl.length vc2) (.slice va3 d.ob.length vc3) (.slice va4 d.ve.length vc4) (.slice va5 d.fu.length vc5) v)) ∧ Hid (wr5.grownBy wr6 (some (w.heap.size + 2))) ∧ Hid (OwR 75 3 (fun x => funcRow x ()) wr6 wr5.heap.size v (d.da.take p))) (fun i _ => d.da.length - (intOf i).toNat)
                      case atStart => exact ⟨0, nilV, rfl, Nat.zero_le _, HSwr5, Lib.hid (gr_refl _ _), Lib.hid (OwR.nil _ _ _ _ _)⟩
                      case round =>
                        obtain ⟨wr6, hwr⟩ : ∃ x, x = wr := ⟨_, rfl⟩
                        subst hwr
                        obtain ⟨p, v, rfl, hpl, hSo, hG, hO⟩ := hrel
                        obtain ⟨va6, vc6, hv⟩ := ow_shape hO.out
                        have htl : (d.da.take p).length = p := by simp; omega
                        rw [htl] at hv
                        subst hv
                        have k1 := hSo.out.bs.cell 12
                        have k2 := hSo.out.bs.fr 12
                        simp only [sC, List.getElem?_cons_zero, List.getElem?_cons_succ] at k1
                        have hsz := hG.out.size
                        by_cases hlt : p < d.da.length
                        · obtain ⟨b, off, cap, hv, hcap, hblt, hcell⟩ := str_open HD.out.da (by omega)
                          have hac : a7 = some ⟨b, off, none⟩ := by simp at hv; exact hv.1
                          subst hac
                          obtain ⟨hrm, hrc⟩ := hcell p hlt
                          have HT : Hid (d.da.take (p + 1) = d.da.take p ++ [d.da[p]]) := Lib.hid (List.take_succ_eq_append_getElem hlt)
                          generalize d.da[p] = n at hrc hrm HT
                          have e0 := (hSo.out.bel.cell (p := ⟨b, off + p, none⟩) hblt).trans hrc
                          have HO2 : Hid (wr6.ownsRow wr5.heap.size 75 3 (.slice va6 p vc6) p ((d.da.take p).map (fun x => funcRow x ())).flatten) := Lib.hid (by have := hO.out; unfold OwR at this; rwa [htl] at this)
                          have hb1 : p + 1 ≤ maxLen ∧ (p + 1) * 64 ≤ 140737488355328 := by unfold maxLen; omega
                          have HKB := fun (o : Obj) (w5 : World) (hg : (wr6.alloc o).grownBy w5 (Value.slice va6 p vc6).ownBlock) => (hSo.out.bs.alloc o).kept hg (fun j hj => by have := ow_lo HO2.out j hj; omega)
                          have HKBh := Lib.hid HKB
                          clear hrc hcell hv htl HKB
                          go_wp2_with (at_builtin; refine wpList_append_own _ rfl _ _ 37 rfl wr5.heap.size 75 iFunc _ 3 64 Try.underlying37 hiFunc hz0Func hz1Func hz2Func rfl (by decide) (.slice va6 p vc6) p ((d.da.take p).map (fun x => funcRow x ())).flatten rfl (HO2.out.alloc _) ⟨wr6.heap.size, 0, none⟩ 1 1 (funcRow n ()) rfl rfl (news_lit wr6 (funcRow n ()) _) (one_all rfl) hb1.1 hb1.2 (ow_le hsz _) ?_; intro v5 w5 hown5 hgrow5 _; obtain ⟨a5, c5, hv5⟩ := ow_shape hown5; subst hv5; have kb := HKBh.out _ _ hgrow5; have cb := kb.cell 12; have fb := kb.fr 12; simp only [sC, List.getElem?_cons_zero, List.getElem?_cons_succ] at cb; clear kb)
                          have HS5 := Lib.hid (hSo.out.step (W := wr5) (by omega) hsz hgrow5 (ow_lo HO2.out) 12 (.slice a5 (p + 1) c5))
                          have HG5 := Lib.hid (gr_step hG.out hgrow5 (ow_lo HO2.out) 12 (.slice a5 (p + 1) c5))
                          have HO5 : Hid (OwR 75 3 (fun x => funcRow x ()) (w5.setCell ⟨w.heap.size + 2, 12, none⟩ (.slice a5 (p + 1) c5)) wr5.heap.size (.slice a5 (p + 1) c5) (d.da.take (p + 1))) := Lib.hid (by
                            rw [HT.out]
                            refine ow_grown (OwR.snoc (row := fun x => funcRow x ()) ?_) (gr_set _ _ _ _) (fun j hj => by have := Option.some.inj hj; omega)
                            have htl : (d.da.take p).length = p := by simp; omega
                            rw [htl]; exact hown5)
                          clear hown5 hgrow5 cb fb
                          go_wp2
                          go_roundw
                          case rel => exact ⟨p + 1, _, by go_num, by omega, HS5, HG5, HO5⟩
                          case measure => simp [intOf]; omega
                        · have hpe : p = d.da.length := by omega
                          subst hpe
                          rw [List.take_length] at hO
                          have HSwr6 := hSo
                          have HG6 := hG
                          have HO6 := hO
                          have hzwr6 : w.heap.size + 3 ≤ wr6.heap.size := hSo.out.bs.lt
                          clear hSo hG hO k1 k2 hsz htl hpl hlt
                          have ks0 := HSwr6.out.bs.cell 0
                          have kr0 := HSwr6.out.br.cell 0
                          have kf0 := HSwr6.out.br.fr 0
                          simp only [sC, List.getElem?_cons_zero, List.getElem?_cons_succ] at ks0 kr0
                          have ks1 := HSwr6.out.bs.cell 1
                          have kr1 := HSwr6.out.br.cell 1
                          have kf1 := HSwr6.out.br.fr 1
                          simp only [sC, List.getElem?_cons_zero, List.getElem?_cons_succ] at ks1 kr1
                          have ks2 := HSwr6.out.bs.cell 2
                          have kr2 := HSwr6.out.br.cell 2
                          have kf2 := HSwr6.out.br.fr 2
                          simp only [sC, List.getElem?_cons_zero, List.getElem?_cons_succ] at ks2 kr2
                          have ks3 := HSwr6.out.bs.cell 3
                          have kr3 := HSwr6.out.br.cell 3
                          have kf3 := HSwr6.out.br.fr 3
                          simp only [sC, List.getElem?_cons_zero, List.getElem?_cons_succ] at ks3 kr3
                          have ks4 := HSwr6.out.bs.cell 4
                          have kr4 := HSwr6.out.br.cell 4
                          have kf4 := HSwr6.out.br.fr 4
                          simp only [sC, List.getElem?_cons_zero, List.getElem?_cons_succ] at ks4 kr4
                          have ks5 := HSwr6.out.bs.cell 5
                          have kr5 := HSwr6.out.br.cell 5
                          have kf5 := HSwr6.out.br.fr 5
                          simp only [sC, List.getElem?_cons_zero, List.getElem?_cons_succ] at ks5 kr5
                          have ks6 := HSwr6.out.bs.cell 6
                          have kr6 := HSwr6.out.br.cell 6
                          have kf6 := HSwr6.out.br.fr 6
                          simp only [sC, List.getElem?_cons_zero, List.getElem?_cons_succ] at ks6 kr6
                          have ks7 := HSwr6.out.bs.cell 7
                          have kr7 := HSwr6.out.br.cell 7
                          have kf7 := HSwr6.out.br.fr 7
                          simp only [sC, List.getElem?_cons_zero, List.getElem?_cons_succ] at ks7 kr7
                          have ks8 := HSwr6.out.bs.cell 8
                          have kr8 := HSwr6.out.br.cell 8
                          have kf8 := HSwr6.out.br.fr 8
                          simp only [sC, List.getElem?_cons_zero, List.getElem?_cons_succ] at ks8 kr8
                          have ks9 := HSwr6.out.bs.cell 9
                          have kr9 := HSwr6.out.br.cell 9
                          have kf9 := HSwr6.out.br.fr 9
                          simp only [sC, List.getElem?_cons_zero, List.getElem?_cons_succ] at ks9 kr9
                          have ks10 := HSwr6.out.bs.cell 10
                          have kr10 := HSwr6.out.br.cell 10
                          have kf10 := HSwr6.out.br.fr 10
                          simp only [sC, List.getElem?_cons_zero, List.getElem?_cons_succ] at ks10 kr10
                          have ks11 := HSwr6.out.bs.cell 11
                          have kr11 := HSwr6.out.br.cell 11
                          have kf11 := HSwr6.out.br.fr 11
                          simp only [sC, List.getElem?_cons_zero, List.getElem?_cons_succ] at ks11 kr11
                          have ks12 := HSwr6.out.bs.cell 12
                          have kr12 := HSwr6.out.br.cell 12
                          have kf12 := HSwr6.out.br.fr 12
                          simp only [sC, List.getElem?_cons_zero, List.getElem?_cons_succ] at ks12 kr12
                          go_wp2
                          refine bodyPost_ret (v := srcV (.slice a1 d.fl.length c1) (.slice va1 d.pr.length vc1) (.slice va2 d.gl.length vc2) (.slice va3 d.ob.length vc3) (.slice va4 d.ve.length vc4) (.slice va5 d.fu.length vc5) (.slice va6 d.da.length vc6)) ?_ rfl ⟨_, _, _, _, _, _, _, rfl, ?_, ?_⟩
                          · rw [results_cell rfl]; go_simp; rfl
                          · exact ⟨
                              HD.out.fl.below (bl_s (bl_s (bl_s (bl_s (bl_s (bl_s (bl_s (bl_s (bl_s (bl_s (bl_s (bl_s (bl_s (HSwr6.out.bel) _ _) _ _) _ _) _ _) _ _) _ _) _ _) _ _) _ _) _ _) _ _) _ _) _ _),
                              lift_reads (c := Cd.pair) (fun _ _ _ _ h => h) (OwR.reads (c := Cd.pair) HO1.out (fun x => rfl) m2 (fun x hx => ⟨⟨7, rfl⟩, str_all HD.out.pr x hx⟩)) (gr_trans (gr_trans (gr_trans (gr_trans HG2.out HG3.out) HG4.out) HG5.out) HG6.out) (gr_trans (gr_trans (gr_trans (gr_trans (gr_trans (gr_trans (gr_trans (gr_trans (gr_trans (gr_trans (gr_trans (gr_trans (gr_set _ _ _ _) (gr_set _ _ _ _)) (gr_set _ _ _ _)) (gr_set _ _ _ _)) (gr_set _ _ _ _)) (gr_set _ _ _ _)) (gr_set _ _ _ _)) (gr_set _ _ _ _)) (gr_set _ _ _ _)) (gr_set _ _ _ _)) (gr_set _ _ _ _)) (gr_set _ _ _ _)) (gr_set _ _ _ _)) (ow_lo HO1.out) (by omega) (by omega),
                              lift_reads (c := Cd.pair) (fun _ _ _ _ h => h) (OwR.reads (c := Cd.pair) HO2.out (fun x => rfl) m3 (fun x hx => ⟨⟨0, rfl⟩, str_all HD.out.gl x hx⟩)) (gr_trans (gr_trans (gr_trans HG3.out HG4.out) HG5.out) HG6.out) (gr_trans (gr_trans (gr_trans (gr_trans (gr_trans (gr_trans (gr_trans (gr_trans (gr_trans (gr_trans (gr_trans (gr_trans (gr_set _ _ _ _) (gr_set _ _ _ _)) (gr_set _ _ _ _)) (gr_set _ _ _ _)) (gr_set _ _ _ _)) (gr_set _ _ _ _)) (gr_set _ _ _ _)) (gr_set _ _ _ _)) (gr_set _ _ _ _)) (gr_set _ _ _ _)) (gr_set _ _ _ _)) (gr_set _ _ _ _)) (gr_set _ _ _ _)) (ow_lo HO2.out) (by omega) (by omega),
                              lift_reads (c := Cd.obj) (fun _ _ _ _ h => h) (OwR.reads (c := Cd.obj) HO3.out (fun x => rfl) m4 (fun x hx => ⟨⟨mkB x, rfl⟩, str_all HD.out.ob x hx⟩)) (gr_trans (gr_trans HG4.out HG5.out) HG6.out) (gr_trans (gr_trans (gr_trans (gr_trans (gr_trans (gr_trans (gr_trans (gr_trans (gr_trans (gr_trans (gr_trans (gr_trans (gr_set _ _ _ _) (gr_set _ _ _ _)) (gr_set _ _ _ _)) (gr_set _ _ _ _)) (gr_set _ _ _ _)) (gr_set _ _ _ _)) (gr_set _ _ _ _)) (gr_set _ _ _ _)) (gr_set _ _ _ _)) (gr_set _ _ _ _)) (gr_set _ _ _ _)) (gr_set _ _ _ _)) (gr_set _ _ _ _)) (ow_lo HO3.out) (by omega) (by omega),
                              lift_reads (c := Cd.verb) (fun _ _ _ _ h => h) (OwR.reads (c := Cd.verb) HO4.out (fun x => rfl) m5 (fun x hx => ⟨⟨(), rfl⟩, str_all HD.out.ve x hx⟩)) (gr_trans HG5.out HG6.out) (gr_trans (gr_trans (gr_trans (gr_trans (gr_trans (gr_trans (gr_trans (gr_trans (gr_trans (gr_trans (gr_trans (gr_trans (gr_set _ _ _ _) (gr_set _ _ _ _)) (gr_set _ _ _ _)) (gr_set _ _ _ _)) (gr_set _ _ _ _)) (gr_set _ _ _ _)) (gr_set _ _ _ _)) (gr_set _ _ _ _)) (gr_set _ _ _ _)) (gr_set _ _ _ _)) (gr_set _ _ _ _)) (gr_set _ _ _ _)) (gr_set _ _ _ _)) (ow_lo HO4.out) (by omega) (by omega),
                              lift_reads (c := Cd.func) (fun _ _ _ _ h => h) (OwR.reads (c := Cd.func) HO5.out (fun x => rfl) m6 (fun x hx => ⟨⟨(), rfl⟩, str_all HD.out.fu x hx⟩)) HG6.out (gr_trans (gr_trans (gr_trans (gr_trans (gr_trans (gr_trans (gr_trans (gr_trans (gr_trans (gr_trans (gr_trans (gr_trans (gr_set _ _ _ _) (gr_set _ _ _ _)) (gr_set _ _ _ _)) (gr_set _ _ _ _)) (gr_set _ _ _ _)) (gr_set _ _ _ _)) (gr_set _ _ _ _)) (gr_set _ _ _ _)) (gr_set _ _ _ _)) (gr_set _ _ _ _)) (gr_set _ _ _ _)) (gr_set _ _ _ _)) (gr_set _ _ _ _)) (ow_lo HO5.out) (by omega) (by omega),
                              lift_reads (c := Cd.func) (fun _ _ _ _ h => h) (OwR.reads (c := Cd.func) HO6.out (fun x => rfl) m7 (fun x hx => ⟨⟨(), rfl⟩, str_all HD.out.da x hx⟩)) (gr_refl _ (some (w.heap.size + 2))) (gr_trans (gr_trans (gr_trans (gr_trans (gr_trans (gr_trans (gr_trans (gr_trans (gr_trans (gr_trans (gr_trans (gr_trans (gr_set _ _ _ _) (gr_set _ _ _ _)) (gr_set _ _ _ _)) (gr_set _ _ _ _)) (gr_set _ _ _ _)) (gr_set _ _ _ _)) (gr_set _ _ _ _)) (gr_set _ _ _ _)) (gr_set _ _ _ _)) (gr_set _ _ _ _)) (gr_set _ _ _ _)) (gr_set _ _ _ _)) (gr_set _ _ _ _)) (ow_lo HO6.out) (by omega) (by omega)⟩
                          · exact bl_s (bl_s (bl_s (bl_s (bl_s (bl_s (bl_s (bl_s (bl_s (bl_s (bl_s (bl_s (bl_s (HSwr6.out.bel) _ _) _ _) _ _) _ _) _ _) _ _) _ _) _ _) _ _) _ _) _ _) _ _) _ _
end Go.Proofs.Ytdommneciojiaaa
