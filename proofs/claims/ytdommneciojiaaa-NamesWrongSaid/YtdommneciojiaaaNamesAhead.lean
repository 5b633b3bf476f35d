/- Contract of clewlaw15.ahead: the part in which a fault is, and what is declared ahead of it. -/
import Derived.Test.YtdommneciojiaaaNamesLaws
import Derived.StillTailTactics
import Derived.BigRegion
import Derived.Deep.RegionHeld3
namespace Go.Proofs.Ytdommneciojiaaa
open Go.RowKit Go.PlainAid
set_option linter.unusedVariables false
set_option linter.unusedSimpArgs false

theorem BK.drewD {w : World} {k : Nat} {cs : List Value} {T : TypeId} (h : BK w k cs T) : BK w.drew k cs T := h
theorem reads_take {α : Type} {c : Cd α} {w : World} {a : Option Addr} {n cap k : Nat} {l : List α} (h : Reads c.seq w (.slice a n cap) l) (hk : k ≤ l.length) : Reads c.seq w (.slice a k cap) (l.take k) := by
  obtain ⟨v', rows, h1, h2, h3, h4⟩ := h
  obtain rfl : Value.slice a n cap = v' := by simpa using h1
  obtain ⟨⟨hm, hr, hc⟩, a', cap', e, hle⟩ := h2
  simp at e
  obtain ⟨rfl, rfl, rfl⟩ := e
  have hkl : (rows.take k).length = k := by simp; omega
  refine ⟨_, rows.take k, rfl, ⟨⟨by omega, fun r hr' => hr r (List.mem_of_mem_take hr'), ?_⟩, a, cap, by rw [hkl], by omega⟩, by simp; omega, fun i h5 h6 => by simp only [List.getElem_take]; exact h4 i (by omega) (by simp at h6; omega)⟩
  rcases hc with ⟨e, a', c', e2, e3⟩ | ⟨b, off, c', e2, hlt, hcell⟩
  · left
    have hk0 : k = 0 := by rw [e] at h3; simp at h3; omega
    subst hk0
    simp at e2
    exact ⟨by simp, a, cap, rfl, fun ea => by rw [e2.2.2]; exact e3 (by rw [← e2.1]; exact ea)⟩
  · right
    simp at e2
    refine ⟨b, off, cap, by rw [e2.1, hkl], hlt, fun i j hi hj => ?_⟩
    rw [hcell i j (by omega) hj]; simp
set_option maxRecDepth 100000 in
set_option maxHeartbeats 4000000 in
theorem ahead2 (q1 q2 q3 q4 q5 q6 q7 : Value) (d : DC) (c : Int) (k : Nat) (s : ByteArray) (w : World) (hs : DeclIs w q1 q2 q3 q4 q5 q6 q7 d) (hd : cntD d ≤ 9000000000000000) (hk : k < d.fl.length) :
    Calls Try.prog 14 #[declV q1 q2 q3 q4 q5 q6 q7, .agg #[.int .i64 c, .int .i64 2, .int .i64 k, .string s]] w fun e w' => ∃ lv u1 u2 u3 u4 u5 u6 u7, e = .returned (.tuple #[lv, declV u1 u2 u3 u4 u5 u6 u7]) ∧ (∀ w0 : World, DeclIs w0 q1 q2 q3 q4 q5 q6 q7 d → Reads Cd.str.seq w0 lv d.fl ∧ DeclIs w0 u1 u2 u3 u4 u5 u6 u7 (aheadD d 2 k)) ∧ Below w.heap.size w w' := by
  obtain ⟨b, off, cap, e2, hcap, hlt, hc⟩ := str_open hs.fl (by omega)
  obtain ⟨a1, c1, h1, g1, m1⟩ := hs.fl.len
  obtain ⟨a2, c2, h2, g2, m2⟩ := hs.pr.len
  obtain ⟨a3, c3, h3, g3, m3⟩ := hs.gl.len
  obtain ⟨a4, c4, h4, g4, m4⟩ := hs.ob.len
  obtain ⟨a5, c5, h5, g5, m5⟩ := hs.ve.len
  obtain ⟨a6, c6, h6, g6, m6⟩ := hs.fu.len
  obtain ⟨a7, c7, h7, g7, m7⟩ := hs.da.len
  subst h1 h2 h3 h4 h5 h6 h7
  have hac : a1 = some ⟨b, off, none⟩ := by simp at e2; exact e2.1
  subst hac
  have HS := Lib.hid hs
  clear hs m1 m2 m3 m4 m5 m6 m7 e2 hc
  have hll : d.fl.length ≤ 9000000000000000 := by unfold cntD at hd; omega
  have hk0 : (0 : Int) ≤ (k : Int) := by omega
  have hk1 : (k : Int) < (d.fl.length : Int) := by omega
  have hmin : min (k : Int) (d.fl.length : Int) = (k : Int) := Int.min_eq_left (by omega)
  have hkc : k ≤ c1 := by omega
  clear hd
  unfold declV
  go_enter Try.func14, Try.ntmps14
  go_wp2
  simp only [Nat.add_assoc, Nat.reduceAdd]
  have hk1' := ((BK.new w (declC (.slice (some ⟨b, off, none⟩) d.fl.length c1) (.slice a2 d.pr.length c2) (.slice a3 d.gl.length c3) (.slice a4 d.ob.length c4) (.slice a5 d.ve.length c5) (.slice a6 d.fu.length c6) (.slice a7 d.da.length c7)) 24).alloc (.cells #[.int .i64 c, .int .i64 2, .int .i64 k, .string s] 30)).alloc (.cells (declC nilV nilV nilV nilV nilV nilV nilV).toArray 24)
  have hk3 := BK_at (w := (w.alloc (.cells (declC (.slice (some ⟨b, off, none⟩) d.fl.length c1) (.slice a2 d.pr.length c2) (.slice a3 d.gl.length c3) (.slice a4 d.ob.length c4) (.slice a5 d.ve.length c5) (.slice a6 d.fu.length c6) (.slice a7 d.da.length c7)).toArray 24)).alloc (.cells #[.int .i64 c, .int .i64 2, .int .i64 k, .string s] 30)) (n := w.heap.size + 2) (by simp) (declC nilV nilV nilV nilV nilV nilV nilV) 24
  have hb0 := bl_a (bl_a (bl_a (Below.refl w.heap.size w) (.cells (declC (.slice (some ⟨b, off, none⟩) d.fl.length c1) (.slice a2 d.pr.length c2) (.slice a3 d.gl.length c3) (.slice a4 d.ob.length c4) (.slice a5 d.ve.length c5) (.slice a6 d.fu.length c6) (.slice a7 d.da.length c7)).toArray 24)) (.cells #[.int .i64 c, .int .i64 2, .int .i64 k, .string s] 30)) (.cells (declC nilV nilV nilV nilV nilV nilV nilV).toArray 24)
  unfold declC at hk1' hk3 hb0
  obtain ⟨W, hW⟩ : ∃ W, ((w.alloc (.cells #[.slice (some ⟨b, off, none⟩) d.fl.length c1, .slice a2 d.pr.length c2, .slice a3 d.gl.length c3, .slice a4 d.ob.length c4, .slice a5 d.ve.length c5, .slice a6 d.fu.length c6, .slice a7 d.da.length c7] 24)).alloc (.cells #[.int .i64 c, .int .i64 2, .int .i64 k, .string s] 30)).alloc (.cells #[nilV, nilV, nilV, nilV, nilV, nilV, nilV] 24) = W := ⟨_, rfl⟩
  have HK := Lib.hid hk1'
  have HR := Lib.hid hk3
  have HB := Lib.hid hb0
  change Hid (BK (((w.alloc (.cells #[.slice (some ⟨b, off, none⟩) d.fl.length c1, .slice a2 d.pr.length c2, .slice a3 d.gl.length c3, .slice a4 d.ob.length c4, .slice a5 d.ve.length c5, .slice a6 d.fu.length c6, .slice a7 d.da.length c7] 24)).alloc (.cells #[.int .i64 c, .int .i64 2, .int .i64 k, .string s] 30)).alloc (.cells #[nilV, nilV, nilV, nilV, nilV, nilV, nilV] 24)) w.heap.size _ _) at HK
  change Hid (BK (((w.alloc (.cells #[.slice (some ⟨b, off, none⟩) d.fl.length c1, .slice a2 d.pr.length c2, .slice a3 d.gl.length c3, .slice a4 d.ob.length c4, .slice a5 d.ve.length c5, .slice a6 d.fu.length c6, .slice a7 d.da.length c7] 24)).alloc (.cells #[.int .i64 c, .int .i64 2, .int .i64 k, .string s] 30)).alloc (.cells #[nilV, nilV, nilV, nilV, nilV, nilV, nilV] 24)) (w.heap.size + 2) _ _) at HR
  change Hid (Below w.heap.size w (((w.alloc (.cells #[.slice (some ⟨b, off, none⟩) d.fl.length c1, .slice a2 d.pr.length c2, .slice a3 d.gl.length c3, .slice a4 d.ob.length c4, .slice a5 d.ve.length c5, .slice a6 d.fu.length c6, .slice a7 d.da.length c7] 24)).alloc (.cells #[.int .i64 c, .int .i64 2, .int .i64 k, .string s] 30)).alloc (.cells #[nilV, nilV, nilV, nilV, nilV, nilV, nilV] 24))) at HB
  rw [hW] at HK HR HB
  rw [hW]
  clear hW hk1' hk3 hb0
  have kd0 := HK.out.cell 0
  have kd1 := HK.out.cell 1
  have kd2 := HK.out.cell 2
  have kd3 := HK.out.cell 3
  have kd4 := HK.out.cell 4
  have kd5 := HK.out.cell 5
  have kd6 := HK.out.cell 6
  have kr0 := HR.out.cell 0
  have kr1 := HR.out.cell 1
  have kr2 := HR.out.cell 2
  have kr3 := HR.out.cell 3
  have kr4 := HR.out.cell 4
  have kr5 := HR.out.cell 5
  have kr6 := HR.out.cell 6
  have kf0 := HR.out.fr 0
  have kf1 := HR.out.fr 1
  have kf2 := HR.out.fr 2
  have kf3 := HR.out.fr 3
  have kf4 := HR.out.fr 4
  have kf5 := HR.out.fr 5
  have kf6 := HR.out.fr 6
  simp only [List.getElem?_cons_zero, List.getElem?_cons_succ] at kd0 kd1 kd2 kd3 kd4 kd5 kd6 kr0 kr1 kr2 kr3 kr4 kr5 kr6
  go_region
  go_wp2
  have g := BK.drewD (((((((HR.out.set 0 (.slice (some ⟨b, off, none⟩) k c1)).set 1 (nilV)).set 2 (nilV)).set 3 (nilV)).set 4 (nilV)).set 5 (nilV)).set 6 (nilV))
  have g0 := g.cell 0
  have g1 := g.cell 1
  have g2 := g.cell 2
  have g3 := g.cell 3
  have g4 := g.cell 4
  have g5 := g.cell 5
  have g6 := g.cell 6
  simp only [List.getElem?_cons_zero, List.getElem?_cons_succ, List.set_cons_zero, List.set_cons_succ] at g0 g1 g2 g3 g4 g5 g6
  clear g
  have hB9 := (bl_s (k := w.heap.size + 2) (bl_s (k := w.heap.size + 2) (bl_s (k := w.heap.size + 2) (bl_s (k := w.heap.size + 2) (bl_s (k := w.heap.size + 2) (bl_s (k := w.heap.size + 2) (bl_s (k := w.heap.size + 2) (HB.out) 0 (.slice (some ⟨b, off, none⟩) k c1)) 1 (nilV)) 2 (nilV)) 3 (nilV)) 4 (nilV)) 5 (nilV)) 6 (nilV)).drew
  refine bodyPost_ret (v := .tuple #[.slice (some ⟨b, off, none⟩) d.fl.length c1, .agg #[.slice (some ⟨b, off, none⟩) k c1, nilV, nilV, nilV, nilV, nilV, nilV]]) ?_ rfl ⟨_, _, _, _, _, _, _, _, rfl, ?_, hB9⟩
  · rw [results_tmp_cell rfl]; go_simp
  · intro w0 h0
    exact ⟨h0.fl, (show DeclIs _ _ _ _ _ _ _ _ ⟨d.fl.take k, [], [], [], [], [], []⟩ from ⟨reads_take h0.fl (by omega), reads_nil _, reads_nil _, reads_nil _, reads_nil _, reads_nil _, reads_nil _⟩)⟩
set_option maxRecDepth 100000 in
set_option maxHeartbeats 4000000 in
theorem ahead3 (q1 q2 q3 q4 q5 q6 q7 : Value) (d : DC) (c : Int) (k : Nat) (s : ByteArray) (w : World) (hs : DeclIs w q1 q2 q3 q4 q5 q6 q7 d) (hd : cntD d ≤ 9000000000000000) (hk : k < d.pr.length) :
    Calls Try.prog 14 #[declV q1 q2 q3 q4 q5 q6 q7, .agg #[.int .i64 c, .int .i64 3, .int .i64 k, .string s]] w fun e w' => ∃ lv u1 u2 u3 u4 u5 u6 u7, e = .returned (.tuple #[lv, declV u1 u2 u3 u4 u5 u6 u7]) ∧ (∀ w0 : World, DeclIs w0 q1 q2 q3 q4 q5 q6 q7 d → Reads Cd.str.seq w0 lv d.pr ∧ DeclIs w0 u1 u2 u3 u4 u5 u6 u7 (aheadD d 3 k)) ∧ Below w.heap.size w w' := by
  obtain ⟨b, off, cap, e2, hcap, hlt, hc⟩ := str_open hs.pr (by omega)
  obtain ⟨a1, c1, h1, g1, m1⟩ := hs.fl.len
  obtain ⟨a2, c2, h2, g2, m2⟩ := hs.pr.len
  obtain ⟨a3, c3, h3, g3, m3⟩ := hs.gl.len
  obtain ⟨a4, c4, h4, g4, m4⟩ := hs.ob.len
  obtain ⟨a5, c5, h5, g5, m5⟩ := hs.ve.len
  obtain ⟨a6, c6, h6, g6, m6⟩ := hs.fu.len
  obtain ⟨a7, c7, h7, g7, m7⟩ := hs.da.len
  subst h1 h2 h3 h4 h5 h6 h7
  have hac : a2 = some ⟨b, off, none⟩ := by simp at e2; exact e2.1
  subst hac
  have HS := Lib.hid hs
  clear hs m1 m2 m3 m4 m5 m6 m7 e2 hc
  have hll : d.pr.length ≤ 9000000000000000 := by unfold cntD at hd; omega
  have hk0 : (0 : Int) ≤ (k : Int) := by omega
  have hk1 : (k : Int) < (d.pr.length : Int) := by omega
  have hmin : min (k : Int) (d.pr.length : Int) = (k : Int) := Int.min_eq_left (by omega)
  have hkc : k ≤ c2 := by omega
  clear hd
  unfold declV
  go_enter Try.func14, Try.ntmps14
  go_wp2
  simp only [Nat.add_assoc, Nat.reduceAdd]
  have hk1' := ((BK.new w (declC (.slice a1 d.fl.length c1) (.slice (some ⟨b, off, none⟩) d.pr.length c2) (.slice a3 d.gl.length c3) (.slice a4 d.ob.length c4) (.slice a5 d.ve.length c5) (.slice a6 d.fu.length c6) (.slice a7 d.da.length c7)) 24).alloc (.cells #[.int .i64 c, .int .i64 3, .int .i64 k, .string s] 30)).alloc (.cells (declC nilV nilV nilV nilV nilV nilV nilV).toArray 24)
  have hk3 := BK_at (w := (w.alloc (.cells (declC (.slice a1 d.fl.length c1) (.slice (some ⟨b, off, none⟩) d.pr.length c2) (.slice a3 d.gl.length c3) (.slice a4 d.ob.length c4) (.slice a5 d.ve.length c5) (.slice a6 d.fu.length c6) (.slice a7 d.da.length c7)).toArray 24)).alloc (.cells #[.int .i64 c, .int .i64 3, .int .i64 k, .string s] 30)) (n := w.heap.size + 2) (by simp) (declC nilV nilV nilV nilV nilV nilV nilV) 24
  have hb0 := bl_a (bl_a (bl_a (Below.refl w.heap.size w) (.cells (declC (.slice a1 d.fl.length c1) (.slice (some ⟨b, off, none⟩) d.pr.length c2) (.slice a3 d.gl.length c3) (.slice a4 d.ob.length c4) (.slice a5 d.ve.length c5) (.slice a6 d.fu.length c6) (.slice a7 d.da.length c7)).toArray 24)) (.cells #[.int .i64 c, .int .i64 3, .int .i64 k, .string s] 30)) (.cells (declC nilV nilV nilV nilV nilV nilV nilV).toArray 24)
  unfold declC at hk1' hk3 hb0
  obtain ⟨W, hW⟩ : ∃ W, ((w.alloc (.cells #[.slice a1 d.fl.length c1, .slice (some ⟨b, off, none⟩) d.pr.length c2, .slice a3 d.gl.length c3, .slice a4 d.ob.length c4, .slice a5 d.ve.length c5, .slice a6 d.fu.length c6, .slice a7 d.da.length c7] 24)).alloc (.cells #[.int .i64 c, .int .i64 3, .int .i64 k, .string s] 30)).alloc (.cells #[nilV, nilV, nilV, nilV, nilV, nilV, nilV] 24) = W := ⟨_, rfl⟩
  have HK := Lib.hid hk1'
  have HR := Lib.hid hk3
  have HB := Lib.hid hb0
  change Hid (BK (((w.alloc (.cells #[.slice a1 d.fl.length c1, .slice (some ⟨b, off, none⟩) d.pr.length c2, .slice a3 d.gl.length c3, .slice a4 d.ob.length c4, .slice a5 d.ve.length c5, .slice a6 d.fu.length c6, .slice a7 d.da.length c7] 24)).alloc (.cells #[.int .i64 c, .int .i64 3, .int .i64 k, .string s] 30)).alloc (.cells #[nilV, nilV, nilV, nilV, nilV, nilV, nilV] 24)) w.heap.size _ _) at HK
  change Hid (BK (((w.alloc (.cells #[.slice a1 d.fl.length c1, .slice (some ⟨b, off, none⟩) d.pr.length c2, .slice a3 d.gl.length c3, .slice a4 d.ob.length c4, .slice a5 d.ve.length c5, .slice a6 d.fu.length c6, .slice a7 d.da.length c7] 24)).alloc (.cells #[.int .i64 c, .int .i64 3, .int .i64 k, .string s] 30)).alloc (.cells #[nilV, nilV, nilV, nilV, nilV, nilV, nilV] 24)) (w.heap.size + 2) _ _) at HR
  change Hid (Below w.heap.size w (((w.alloc (.cells #[.slice a1 d.fl.length c1, .slice (some ⟨b, off, none⟩) d.pr.length c2, .slice a3 d.gl.length c3, .slice a4 d.ob.length c4, .slice a5 d.ve.length c5, .slice a6 d.fu.length c6, .slice a7 d.da.length c7] 24)).alloc (.cells #[.int .i64 c, .int .i64 3, .int .i64 k, .string s] 30)).alloc (.cells #[nilV, nilV, nilV, nilV, nilV, nilV, nilV] 24))) at HB
  rw [hW] at HK HR HB
  rw [hW]
  clear hW hk1' hk3 hb0
  have kd0 := HK.out.cell 0
  have kd1 := HK.out.cell 1
  have kd2 := HK.out.cell 2
  have kd3 := HK.out.cell 3
  have kd4 := HK.out.cell 4
  have kd5 := HK.out.cell 5
  have kd6 := HK.out.cell 6
  have kr0 := HR.out.cell 0
  have kr1 := HR.out.cell 1
  have kr2 := HR.out.cell 2
  have kr3 := HR.out.cell 3
  have kr4 := HR.out.cell 4
  have kr5 := HR.out.cell 5
  have kr6 := HR.out.cell 6
  have kf0 := HR.out.fr 0
  have kf1 := HR.out.fr 1
  have kf2 := HR.out.fr 2
  have kf3 := HR.out.fr 3
  have kf4 := HR.out.fr 4
  have kf5 := HR.out.fr 5
  have kf6 := HR.out.fr 6
  simp only [List.getElem?_cons_zero, List.getElem?_cons_succ] at kd0 kd1 kd2 kd3 kd4 kd5 kd6 kr0 kr1 kr2 kr3 kr4 kr5 kr6
  go_region
  go_wp2
  have g := BK.drewD (((((((HR.out.set 0 (.slice a1 d.fl.length c1)).set 1 (.slice (some ⟨b, off, none⟩) k c2)).set 2 (nilV)).set 3 (nilV)).set 4 (nilV)).set 5 (nilV)).set 6 (nilV))
  have g0 := g.cell 0
  have g1 := g.cell 1
  have g2 := g.cell 2
  have g3 := g.cell 3
  have g4 := g.cell 4
  have g5 := g.cell 5
  have g6 := g.cell 6
  simp only [List.getElem?_cons_zero, List.getElem?_cons_succ, List.set_cons_zero, List.set_cons_succ] at g0 g1 g2 g3 g4 g5 g6
  clear g
  have hB9 := (bl_s (k := w.heap.size + 2) (bl_s (k := w.heap.size + 2) (bl_s (k := w.heap.size + 2) (bl_s (k := w.heap.size + 2) (bl_s (k := w.heap.size + 2) (bl_s (k := w.heap.size + 2) (bl_s (k := w.heap.size + 2) (HB.out) 0 (.slice a1 d.fl.length c1)) 1 (.slice (some ⟨b, off, none⟩) k c2)) 2 (nilV)) 3 (nilV)) 4 (nilV)) 5 (nilV)) 6 (nilV)).drew
  refine bodyPost_ret (v := .tuple #[.slice (some ⟨b, off, none⟩) d.pr.length c2, .agg #[.slice a1 d.fl.length c1, .slice (some ⟨b, off, none⟩) k c2, nilV, nilV, nilV, nilV, nilV]]) ?_ rfl ⟨_, _, _, _, _, _, _, _, rfl, ?_, hB9⟩
  · rw [results_tmp_cell rfl]; go_simp
  · intro w0 h0
    exact ⟨h0.pr, (show DeclIs _ _ _ _ _ _ _ _ ⟨d.fl, d.pr.take k, [], [], [], [], []⟩ from ⟨h0.fl, reads_take h0.pr (by omega), reads_nil _, reads_nil _, reads_nil _, reads_nil _, reads_nil _⟩)⟩
set_option maxRecDepth 100000 in
set_option maxHeartbeats 4000000 in
theorem ahead4 (q1 q2 q3 q4 q5 q6 q7 : Value) (d : DC) (c : Int) (k : Nat) (s : ByteArray) (w : World) (hs : DeclIs w q1 q2 q3 q4 q5 q6 q7 d) (hd : cntD d ≤ 9000000000000000) (hk : k < d.gl.length) :
    Calls Try.prog 14 #[declV q1 q2 q3 q4 q5 q6 q7, .agg #[.int .i64 c, .int .i64 4, .int .i64 k, .string s]] w fun e w' => ∃ lv u1 u2 u3 u4 u5 u6 u7, e = .returned (.tuple #[lv, declV u1 u2 u3 u4 u5 u6 u7]) ∧ (∀ w0 : World, DeclIs w0 q1 q2 q3 q4 q5 q6 q7 d → Reads Cd.str.seq w0 lv d.gl ∧ DeclIs w0 u1 u2 u3 u4 u5 u6 u7 (aheadD d 4 k)) ∧ Below w.heap.size w w' := by
  obtain ⟨b, off, cap, e2, hcap, hlt, hc⟩ := str_open hs.gl (by omega)
  obtain ⟨a1, c1, h1, g1, m1⟩ := hs.fl.len
  obtain ⟨a2, c2, h2, g2, m2⟩ := hs.pr.len
  obtain ⟨a3, c3, h3, g3, m3⟩ := hs.gl.len
  obtain ⟨a4, c4, h4, g4, m4⟩ := hs.ob.len
  obtain ⟨a5, c5, h5, g5, m5⟩ := hs.ve.len
  obtain ⟨a6, c6, h6, g6, m6⟩ := hs.fu.len
  obtain ⟨a7, c7, h7, g7, m7⟩ := hs.da.len
  subst h1 h2 h3 h4 h5 h6 h7
  have hac : a3 = some ⟨b, off, none⟩ := by simp at e2; exact e2.1
  subst hac
  have HS := Lib.hid hs
  clear hs m1 m2 m3 m4 m5 m6 m7 e2 hc
  have hll : d.gl.length ≤ 9000000000000000 := by unfold cntD at hd; omega
  have hk0 : (0 : Int) ≤ (k : Int) := by omega
  have hk1 : (k : Int) < (d.gl.length : Int) := by omega
  have hmin : min (k : Int) (d.gl.length : Int) = (k : Int) := Int.min_eq_left (by omega)
  have hkc : k ≤ c3 := by omega
  clear hd
  unfold declV
  go_enter Try.func14, Try.ntmps14
  go_wp2
  simp only [Nat.add_assoc, Nat.reduceAdd]
  have hk1' := ((BK.new w (declC (.slice a1 d.fl.length c1) (.slice a2 d.pr.length c2) (.slice (some ⟨b, off, none⟩) d.gl.length c3) (.slice a4 d.ob.length c4) (.slice a5 d.ve.length c5) (.slice a6 d.fu.length c6) (.slice a7 d.da.length c7)) 24).alloc (.cells #[.int .i64 c, .int .i64 4, .int .i64 k, .string s] 30)).alloc (.cells (declC nilV nilV nilV nilV nilV nilV nilV).toArray 24)
  have hk3 := BK_at (w := (w.alloc (.cells (declC (.slice a1 d.fl.length c1) (.slice a2 d.pr.length c2) (.slice (some ⟨b, off, none⟩) d.gl.length c3) (.slice a4 d.ob.length c4) (.slice a5 d.ve.length c5) (.slice a6 d.fu.length c6) (.slice a7 d.da.length c7)).toArray 24)).alloc (.cells #[.int .i64 c, .int .i64 4, .int .i64 k, .string s] 30)) (n := w.heap.size + 2) (by simp) (declC nilV nilV nilV nilV nilV nilV nilV) 24
  have hb0 := bl_a (bl_a (bl_a (Below.refl w.heap.size w) (.cells (declC (.slice a1 d.fl.length c1) (.slice a2 d.pr.length c2) (.slice (some ⟨b, off, none⟩) d.gl.length c3) (.slice a4 d.ob.length c4) (.slice a5 d.ve.length c5) (.slice a6 d.fu.length c6) (.slice a7 d.da.length c7)).toArray 24)) (.cells #[.int .i64 c, .int .i64 4, .int .i64 k, .string s] 30)) (.cells (declC nilV nilV nilV nilV nilV nilV nilV).toArray 24)
  unfold declC at hk1' hk3 hb0
  obtain ⟨W, hW⟩ : ∃ W, ((w.alloc (.cells #[.slice a1 d.fl.length c1, .slice a2 d.pr.length c2, .slice (some ⟨b, off, none⟩) d.gl.length c3, .slice a4 d.ob.length c4, .slice a5 d.ve.length c5, .slice a6 d.fu.length c6, .slice a7 d.da.length c7] 24)).alloc (.cells #[.int .i64 c, .int .i64 4, .int .i64 k, .string s] 30)).alloc (.cells #[nilV, nilV, nilV, nilV, nilV, nilV, nilV] 24) = W := ⟨_, rfl⟩
  have HK := Lib.hid hk1'
  have HR := Lib.hid hk3
  have HB := Lib.hid hb0
  change Hid (BK (((w.alloc (.cells #[.slice a1 d.fl.length c1, .slice a2 d.pr.length c2, .slice (some ⟨b, off, none⟩) d.gl.length c3, .slice a4 d.ob.length c4, .slice a5 d.ve.length c5, .slice a6 d.fu.length c6, .slice a7 d.da.length c7] 24)).alloc (.cells #[.int .i64 c, .int .i64 4, .int .i64 k, .string s] 30)).alloc (.cells #[nilV, nilV, nilV, nilV, nilV, nilV, nilV] 24)) w.heap.size _ _) at HK
  change Hid (BK (((w.alloc (.cells #[.slice a1 d.fl.length c1, .slice a2 d.pr.length c2, .slice (some ⟨b, off, none⟩) d.gl.length c3, .slice a4 d.ob.length c4, .slice a5 d.ve.length c5, .slice a6 d.fu.length c6, .slice a7 d.da.length c7] 24)).alloc (.cells #[.int .i64 c, .int .i64 4, .int .i64 k, .string s] 30)).alloc (.cells #[nilV, nilV, nilV, nilV, nilV, nilV, nilV] 24)) (w.heap.size + 2) _ _) at HR
  change Hid (Below w.heap.size w (((w.alloc (.cells #[.slice a1 d.fl.length c1, .slice a2 d.pr.length c2, .slice (some ⟨b, off, none⟩) d.gl.length c3, .slice a4 d.ob.length c4, .slice a5 d.ve.length c5, .slice a6 d.fu.length c6, .slice a7 d.da.length c7] 24)).alloc (.cells #[.int .i64 c, .int .i64 4, .int .i64 k, .string s] 30)).alloc (.cells #[nilV, nilV, nilV, nilV, nilV, nilV, nilV] 24))) at HB
  rw [hW] at HK HR HB
  rw [hW]
  clear hW hk1' hk3 hb0
  have kd0 := HK.out.cell 0
  have kd1 := HK.out.cell 1
  have kd2 := HK.out.cell 2
  have kd3 := HK.out.cell 3
  have kd4 := HK.out.cell 4
  have kd5 := HK.out.cell 5
  have kd6 := HK.out.cell 6
  have kr0 := HR.out.cell 0
  have kr1 := HR.out.cell 1
  have kr2 := HR.out.cell 2
  have kr3 := HR.out.cell 3
  have kr4 := HR.out.cell 4
  have kr5 := HR.out.cell 5
  have kr6 := HR.out.cell 6
  have kf0 := HR.out.fr 0
  have kf1 := HR.out.fr 1
  have kf2 := HR.out.fr 2
  have kf3 := HR.out.fr 3
  have kf4 := HR.out.fr 4
  have kf5 := HR.out.fr 5
  have kf6 := HR.out.fr 6
  simp only [List.getElem?_cons_zero, List.getElem?_cons_succ] at kd0 kd1 kd2 kd3 kd4 kd5 kd6 kr0 kr1 kr2 kr3 kr4 kr5 kr6
  go_region_held3 (fun w1 => w1.cell? ⟨w.heap.size, 0, none⟩ = some (.slice a1 d.fl.length c1) ∧ w1.cell? ⟨w.heap.size, 1, none⟩ = some (.slice a2 d.pr.length c2) ∧ w1.cell? ⟨w.heap.size, 2, none⟩ = some (.slice (some ⟨b, off, none⟩) d.gl.length c3) ∧ w1.cell? ⟨w.heap.size, 3, none⟩ = some (.slice a4 d.ob.length c4) ∧ w1.cell? ⟨w.heap.size, 4, none⟩ = some (.slice a5 d.ve.length c5) ∧ w1.cell? ⟨w.heap.size, 5, none⟩ = some (.slice a6 d.fu.length c6) ∧ w1.cell? ⟨w.heap.size, 6, none⟩ = some (.slice a7 d.da.length c7)) (go_keep) (first | fail)
  go_wp2
  have g := BK.drewD (((((((HR.out.set 0 (.slice a1 d.fl.length c1)).set 1 (.slice a2 d.pr.length c2)).set 2 (.slice (some ⟨b, off, none⟩) k c3)).set 3 (nilV)).set 4 (nilV)).set 5 (nilV)).set 6 (nilV))
  have g0 := g.cell 0
  have g1 := g.cell 1
  have g2 := g.cell 2
  have g3 := g.cell 3
  have g4 := g.cell 4
  have g5 := g.cell 5
  have g6 := g.cell 6
  simp only [List.getElem?_cons_zero, List.getElem?_cons_succ, List.set_cons_zero, List.set_cons_succ] at g0 g1 g2 g3 g4 g5 g6
  clear g
  have hB9 := (bl_s (k := w.heap.size + 2) (bl_s (k := w.heap.size + 2) (bl_s (k := w.heap.size + 2) (bl_s (k := w.heap.size + 2) (bl_s (k := w.heap.size + 2) (bl_s (k := w.heap.size + 2) (bl_s (k := w.heap.size + 2) (HB.out) 0 (.slice a1 d.fl.length c1)) 1 (.slice a2 d.pr.length c2)) 2 (.slice (some ⟨b, off, none⟩) k c3)) 3 (nilV)) 4 (nilV)) 5 (nilV)) 6 (nilV)).drew
  refine bodyPost_ret (v := .tuple #[.slice (some ⟨b, off, none⟩) d.gl.length c3, .agg #[.slice a1 d.fl.length c1, .slice a2 d.pr.length c2, .slice (some ⟨b, off, none⟩) k c3, nilV, nilV, nilV, nilV]]) ?_ rfl ⟨_, _, _, _, _, _, _, _, rfl, ?_, hB9⟩
  · rw [results_tmp_cell rfl]; go_simp
  · intro w0 h0
    exact ⟨h0.gl, (show DeclIs _ _ _ _ _ _ _ _ ⟨d.fl, d.pr, d.gl.take k, [], [], [], []⟩ from ⟨h0.fl, h0.pr, reads_take h0.gl (by omega), reads_nil _, reads_nil _, reads_nil _, reads_nil _⟩)⟩
set_option maxRecDepth 100000 in
set_option maxHeartbeats 4000000 in
theorem ahead5 (q1 q2 q3 q4 q5 q6 q7 : Value) (d : DC) (c : Int) (k : Nat) (s : ByteArray) (w : World) (hs : DeclIs w q1 q2 q3 q4 q5 q6 q7 d) (hd : cntD d ≤ 9000000000000000) (hk : k < d.ob.length) :
    Calls Try.prog 14 #[declV q1 q2 q3 q4 q5 q6 q7, .agg #[.int .i64 c, .int .i64 5, .int .i64 k, .string s]] w fun e w' => ∃ lv u1 u2 u3 u4 u5 u6 u7, e = .returned (.tuple #[lv, declV u1 u2 u3 u4 u5 u6 u7]) ∧ (∀ w0 : World, DeclIs w0 q1 q2 q3 q4 q5 q6 q7 d → Reads Cd.str.seq w0 lv d.ob ∧ DeclIs w0 u1 u2 u3 u4 u5 u6 u7 (aheadD d 5 k)) ∧ Below w.heap.size w w' := by
  obtain ⟨b, off, cap, e2, hcap, hlt, hc⟩ := str_open hs.ob (by omega)
  obtain ⟨a1, c1, h1, g1, m1⟩ := hs.fl.len
  obtain ⟨a2, c2, h2, g2, m2⟩ := hs.pr.len
  obtain ⟨a3, c3, h3, g3, m3⟩ := hs.gl.len
  obtain ⟨a4, c4, h4, g4, m4⟩ := hs.ob.len
  obtain ⟨a5, c5, h5, g5, m5⟩ := hs.ve.len
  obtain ⟨a6, c6, h6, g6, m6⟩ := hs.fu.len
  obtain ⟨a7, c7, h7, g7, m7⟩ := hs.da.len
  subst h1 h2 h3 h4 h5 h6 h7
  have hac : a4 = some ⟨b, off, none⟩ := by simp at e2; exact e2.1
  subst hac
  have HS := Lib.hid hs
  clear hs m1 m2 m3 m4 m5 m6 m7 e2 hc
  have hll : d.ob.length ≤ 9000000000000000 := by unfold cntD at hd; omega
  have hk0 : (0 : Int) ≤ (k : Int) := by omega
  have hk1 : (k : Int) < (d.ob.length : Int) := by omega
  have hmin : min (k : Int) (d.ob.length : Int) = (k : Int) := Int.min_eq_left (by omega)
  have hkc : k ≤ c4 := by omega
  clear hd
  unfold declV
  go_enter Try.func14, Try.ntmps14
  go_wp2
  simp only [Nat.add_assoc, Nat.reduceAdd]
  have hk1' := ((BK.new w (declC (.slice a1 d.fl.length c1) (.slice a2 d.pr.length c2) (.slice a3 d.gl.length c3) (.slice (some ⟨b, off, none⟩) d.ob.length c4) (.slice a5 d.ve.length c5) (.slice a6 d.fu.length c6) (.slice a7 d.da.length c7)) 24).alloc (.cells #[.int .i64 c, .int .i64 5, .int .i64 k, .string s] 30)).alloc (.cells (declC nilV nilV nilV nilV nilV nilV nilV).toArray 24)
  have hk3 := BK_at (w := (w.alloc (.cells (declC (.slice a1 d.fl.length c1) (.slice a2 d.pr.length c2) (.slice a3 d.gl.length c3) (.slice (some ⟨b, off, none⟩) d.ob.length c4) (.slice a5 d.ve.length c5) (.slice a6 d.fu.length c6) (.slice a7 d.da.length c7)).toArray 24)).alloc (.cells #[.int .i64 c, .int .i64 5, .int .i64 k, .string s] 30)) (n := w.heap.size + 2) (by simp) (declC nilV nilV nilV nilV nilV nilV nilV) 24
  have hb0 := bl_a (bl_a (bl_a (Below.refl w.heap.size w) (.cells (declC (.slice a1 d.fl.length c1) (.slice a2 d.pr.length c2) (.slice a3 d.gl.length c3) (.slice (some ⟨b, off, none⟩) d.ob.length c4) (.slice a5 d.ve.length c5) (.slice a6 d.fu.length c6) (.slice a7 d.da.length c7)).toArray 24)) (.cells #[.int .i64 c, .int .i64 5, .int .i64 k, .string s] 30)) (.cells (declC nilV nilV nilV nilV nilV nilV nilV).toArray 24)
  unfold declC at hk1' hk3 hb0
  obtain ⟨W, hW⟩ : ∃ W, ((w.alloc (.cells #[.slice a1 d.fl.length c1, .slice a2 d.pr.length c2, .slice a3 d.gl.length c3, .slice (some ⟨b, off, none⟩) d.ob.length c4, .slice a5 d.ve.length c5, .slice a6 d.fu.length c6, .slice a7 d.da.length c7] 24)).alloc (.cells #[.int .i64 c, .int .i64 5, .int .i64 k, .string s] 30)).alloc (.cells #[nilV, nilV, nilV, nilV, nilV, nilV, nilV] 24) = W := ⟨_, rfl⟩
  have HK := Lib.hid hk1'
  have HR := Lib.hid hk3
  have HB := Lib.hid hb0
  change Hid (BK (((w.alloc (.cells #[.slice a1 d.fl.length c1, .slice a2 d.pr.length c2, .slice a3 d.gl.length c3, .slice (some ⟨b, off, none⟩) d.ob.length c4, .slice a5 d.ve.length c5, .slice a6 d.fu.length c6, .slice a7 d.da.length c7] 24)).alloc (.cells #[.int .i64 c, .int .i64 5, .int .i64 k, .string s] 30)).alloc (.cells #[nilV, nilV, nilV, nilV, nilV, nilV, nilV] 24)) w.heap.size _ _) at HK
  change Hid (BK (((w.alloc (.cells #[.slice a1 d.fl.length c1, .slice a2 d.pr.length c2, .slice a3 d.gl.length c3, .slice (some ⟨b, off, none⟩) d.ob.length c4, .slice a5 d.ve.length c5, .slice a6 d.fu.length c6, .slice a7 d.da.length c7] 24)).alloc (.cells #[.int .i64 c, .int .i64 5, .int .i64 k, .string s] 30)).alloc (.cells #[nilV, nilV, nilV, nilV, nilV, nilV, nilV] 24)) (w.heap.size + 2) _ _) at HR
  change Hid (Below w.heap.size w (((w.alloc (.cells #[.slice a1 d.fl.length c1, .slice a2 d.pr.length c2, .slice a3 d.gl.length c3, .slice (some ⟨b, off, none⟩) d.ob.length c4, .slice a5 d.ve.length c5, .slice a6 d.fu.length c6, .slice a7 d.da.length c7] 24)).alloc (.cells #[.int .i64 c, .int .i64 5, .int .i64 k, .string s] 30)).alloc (.cells #[nilV, nilV, nilV, nilV, nilV, nilV, nilV] 24))) at HB
  rw [hW] at HK HR HB
  rw [hW]
  clear hW hk1' hk3 hb0
  have kd0 := HK.out.cell 0
  have kd1 := HK.out.cell 1
  have kd2 := HK.out.cell 2
  have kd3 := HK.out.cell 3
  have kd4 := HK.out.cell 4
  have kd5 := HK.out.cell 5
  have kd6 := HK.out.cell 6
  have kr0 := HR.out.cell 0
  have kr1 := HR.out.cell 1
  have kr2 := HR.out.cell 2
  have kr3 := HR.out.cell 3
  have kr4 := HR.out.cell 4
  have kr5 := HR.out.cell 5
  have kr6 := HR.out.cell 6
  have kf0 := HR.out.fr 0
  have kf1 := HR.out.fr 1
  have kf2 := HR.out.fr 2
  have kf3 := HR.out.fr 3
  have kf4 := HR.out.fr 4
  have kf5 := HR.out.fr 5
  have kf6 := HR.out.fr 6
  simp only [List.getElem?_cons_zero, List.getElem?_cons_succ] at kd0 kd1 kd2 kd3 kd4 kd5 kd6 kr0 kr1 kr2 kr3 kr4 kr5 kr6
  go_region_held3 (fun w1 => w1.cell? ⟨w.heap.size, 0, none⟩ = some (.slice a1 d.fl.length c1) ∧ w1.cell? ⟨w.heap.size, 1, none⟩ = some (.slice a2 d.pr.length c2) ∧ w1.cell? ⟨w.heap.size, 2, none⟩ = some (.slice a3 d.gl.length c3) ∧ w1.cell? ⟨w.heap.size, 3, none⟩ = some (.slice (some ⟨b, off, none⟩) d.ob.length c4) ∧ w1.cell? ⟨w.heap.size, 4, none⟩ = some (.slice a5 d.ve.length c5) ∧ w1.cell? ⟨w.heap.size, 5, none⟩ = some (.slice a6 d.fu.length c6) ∧ w1.cell? ⟨w.heap.size, 6, none⟩ = some (.slice a7 d.da.length c7)) (go_keep) (first | fail)
  go_wp2
  have g := BK.drewD (((((((HR.out.set 0 (.slice a1 d.fl.length c1)).set 1 (.slice a2 d.pr.length c2)).set 2 (.slice a3 d.gl.length c3)).set 3 (.slice (some ⟨b, off, none⟩) k c4)).set 4 (nilV)).set 5 (nilV)).set 6 (nilV))
  have g0 := g.cell 0
  have g1 := g.cell 1
  have g2 := g.cell 2
  have g3 := g.cell 3
  have g4 := g.cell 4
  have g5 := g.cell 5
  have g6 := g.cell 6
  simp only [List.getElem?_cons_zero, List.getElem?_cons_succ, List.set_cons_zero, List.set_cons_succ] at g0 g1 g2 g3 g4 g5 g6
  clear g
  have hB9 := (bl_s (k := w.heap.size + 2) (bl_s (k := w.heap.size + 2) (bl_s (k := w.heap.size + 2) (bl_s (k := w.heap.size + 2) (bl_s (k := w.heap.size + 2) (bl_s (k := w.heap.size + 2) (bl_s (k := w.heap.size + 2) (HB.out) 0 (.slice a1 d.fl.length c1)) 1 (.slice a2 d.pr.length c2)) 2 (.slice a3 d.gl.length c3)) 3 (.slice (some ⟨b, off, none⟩) k c4)) 4 (nilV)) 5 (nilV)) 6 (nilV)).drew
  refine bodyPost_ret (v := .tuple #[.slice (some ⟨b, off, none⟩) d.ob.length c4, .agg #[.slice a1 d.fl.length c1, .slice a2 d.pr.length c2, .slice a3 d.gl.length c3, .slice (some ⟨b, off, none⟩) k c4, nilV, nilV, nilV]]) ?_ rfl ⟨_, _, _, _, _, _, _, _, rfl, ?_, hB9⟩
  · rw [results_tmp_cell rfl]; go_simp
  · intro w0 h0
    exact ⟨h0.ob, (show DeclIs _ _ _ _ _ _ _ _ ⟨d.fl, d.pr, d.gl, d.ob.take k, [], [], []⟩ from ⟨h0.fl, h0.pr, h0.gl, reads_take h0.ob (by omega), reads_nil _, reads_nil _, reads_nil _⟩)⟩
set_option maxRecDepth 100000 in
set_option maxHeartbeats 4000000 in
theorem ahead6 (q1 q2 q3 q4 q5 q6 q7 : Value) (d : DC) (c : Int) (k : Nat) (s : ByteArray) (w : World) (hs : DeclIs w q1 q2 q3 q4 q5 q6 q7 d) (hd : cntD d ≤ 9000000000000000) (hk : k < d.ve.length) :
    Calls Try.prog 14 #[declV q1 q2 q3 q4 q5 q6 q7, .agg #[.int .i64 c, .int .i64 6, .int .i64 k, .string s]] w fun e w' => ∃ lv u1 u2 u3 u4 u5 u6 u7, e = .returned (.tuple #[lv, declV u1 u2 u3 u4 u5 u6 u7]) ∧ (∀ w0 : World, DeclIs w0 q1 q2 q3 q4 q5 q6 q7 d → Reads Cd.str.seq w0 lv d.ve ∧ DeclIs w0 u1 u2 u3 u4 u5 u6 u7 (aheadD d 6 k)) ∧ Below w.heap.size w w' := by
  obtain ⟨b, off, cap, e2, hcap, hlt, hc⟩ := str_open hs.ve (by omega)
  obtain ⟨a1, c1, h1, g1, m1⟩ := hs.fl.len
  obtain ⟨a2, c2, h2, g2, m2⟩ := hs.pr.len
  obtain ⟨a3, c3, h3, g3, m3⟩ := hs.gl.len
  obtain ⟨a4, c4, h4, g4, m4⟩ := hs.ob.len
  obtain ⟨a5, c5, h5, g5, m5⟩ := hs.ve.len
  obtain ⟨a6, c6, h6, g6, m6⟩ := hs.fu.len
  obtain ⟨a7, c7, h7, g7, m7⟩ := hs.da.len
  subst h1 h2 h3 h4 h5 h6 h7
  have hac : a5 = some ⟨b, off, none⟩ := by simp at e2; exact e2.1
  subst hac
  have HS := Lib.hid hs
  clear hs m1 m2 m3 m4 m5 m6 m7 e2 hc
  have hll : d.ve.length ≤ 9000000000000000 := by unfold cntD at hd; omega
  have hk0 : (0 : Int) ≤ (k : Int) := by omega
  have hk1 : (k : Int) < (d.ve.length : Int) := by omega
  have hmin : min (k : Int) (d.ve.length : Int) = (k : Int) := Int.min_eq_left (by omega)
  have hkc : k ≤ c5 := by omega
  clear hd
  unfold declV
  go_enter Try.func14, Try.ntmps14
  go_wp2
  simp only [Nat.add_assoc, Nat.reduceAdd]
  have hk1' := ((BK.new w (declC (.slice a1 d.fl.length c1) (.slice a2 d.pr.length c2) (.slice a3 d.gl.length c3) (.slice a4 d.ob.length c4) (.slice (some ⟨b, off, none⟩) d.ve.length c5) (.slice a6 d.fu.length c6) (.slice a7 d.da.length c7)) 24).alloc (.cells #[.int .i64 c, .int .i64 6, .int .i64 k, .string s] 30)).alloc (.cells (declC nilV nilV nilV nilV nilV nilV nilV).toArray 24)
  have hk3 := BK_at (w := (w.alloc (.cells (declC (.slice a1 d.fl.length c1) (.slice a2 d.pr.length c2) (.slice a3 d.gl.length c3) (.slice a4 d.ob.length c4) (.slice (some ⟨b, off, none⟩) d.ve.length c5) (.slice a6 d.fu.length c6) (.slice a7 d.da.length c7)).toArray 24)).alloc (.cells #[.int .i64 c, .int .i64 6, .int .i64 k, .string s] 30)) (n := w.heap.size + 2) (by simp) (declC nilV nilV nilV nilV nilV nilV nilV) 24
  have hb0 := bl_a (bl_a (bl_a (Below.refl w.heap.size w) (.cells (declC (.slice a1 d.fl.length c1) (.slice a2 d.pr.length c2) (.slice a3 d.gl.length c3) (.slice a4 d.ob.length c4) (.slice (some ⟨b, off, none⟩) d.ve.length c5) (.slice a6 d.fu.length c6) (.slice a7 d.da.length c7)).toArray 24)) (.cells #[.int .i64 c, .int .i64 6, .int .i64 k, .string s] 30)) (.cells (declC nilV nilV nilV nilV nilV nilV nilV).toArray 24)
  unfold declC at hk1' hk3 hb0
  obtain ⟨W, hW⟩ : ∃ W, ((w.alloc (.cells #[.slice a1 d.fl.length c1, .slice a2 d.pr.length c2, .slice a3 d.gl.length c3, .slice a4 d.ob.length c4, .slice (some ⟨b, off, none⟩) d.ve.length c5, .slice a6 d.fu.length c6, .slice a7 d.da.length c7] 24)).alloc (.cells #[.int .i64 c, .int .i64 6, .int .i64 k, .string s] 30)).alloc (.cells #[nilV, nilV, nilV, nilV, nilV, nilV, nilV] 24) = W := ⟨_, rfl⟩
  have HK := Lib.hid hk1'
  have HR := Lib.hid hk3
  have HB := Lib.hid hb0
  change Hid (BK (((w.alloc (.cells #[.slice a1 d.fl.length c1, .slice a2 d.pr.length c2, .slice a3 d.gl.length c3, .slice a4 d.ob.length c4, .slice (some ⟨b, off, none⟩) d.ve.length c5, .slice a6 d.fu.length c6, .slice a7 d.da.length c7] 24)).alloc (.cells #[.int .i64 c, .int .i64 6, .int .i64 k, .string s] 30)).alloc (.cells #[nilV, nilV, nilV, nilV, nilV, nilV, nilV] 24)) w.heap.size _ _) at HK
  change Hid (BK (((w.alloc (.cells #[.slice a1 d.fl.length c1, .slice a2 d.pr.length c2, .slice a3 d.gl.length c3, .slice a4 d.ob.length c4, .slice (some ⟨b, off, none⟩) d.ve.length c5, .slice a6 d.fu.length c6, .slice a7 d.da.length c7] 24)).alloc (.cells #[.int .i64 c, .int .i64 6, .int .i64 k, .string s] 30)).alloc (.cells #[nilV, nilV, nilV, nilV, nilV, nilV, nilV] 24)) (w.heap.size + 2) _ _) at HR
  change Hid (Below w.heap.size w (((w.alloc (.cells #[.slice a1 d.fl.length c1, .slice a2 d.pr.length c2, .slice a3 d.gl.length c3, .slice a4 d.ob.length c4, .slice (some ⟨b, off, none⟩) d.ve.length c5, .slice a6 d.fu.length c6, .slice a7 d.da.length c7] 24)).alloc (.cells #[.int .i64 c, .int .i64 6, .int .i64 k, .string s] 30)).alloc (.cells #[nilV, nilV, nilV, nilV, nilV, nilV, nilV] 24))) at HB
  rw [hW] at HK HR HB
  rw [hW]
  clear hW hk1' hk3 hb0
  have kd0 := HK.out.cell 0
  have kd1 := HK.out.cell 1
  have kd2 := HK.out.cell 2
  have kd3 := HK.out.cell 3
  have kd4 := HK.out.cell 4
  have kd5 := HK.out.cell 5
  have kd6 := HK.out.cell 6
  have kr0 := HR.out.cell 0
  have kr1 := HR.out.cell 1
  have kr2 := HR.out.cell 2
  have kr3 := HR.out.cell 3
  have kr4 := HR.out.cell 4
  have kr5 := HR.out.cell 5
  have kr6 := HR.out.cell 6
  have kf0 := HR.out.fr 0
  have kf1 := HR.out.fr 1
  have kf2 := HR.out.fr 2
  have kf3 := HR.out.fr 3
  have kf4 := HR.out.fr 4
  have kf5 := HR.out.fr 5
  have kf6 := HR.out.fr 6
  simp only [List.getElem?_cons_zero, List.getElem?_cons_succ] at kd0 kd1 kd2 kd3 kd4 kd5 kd6 kr0 kr1 kr2 kr3 kr4 kr5 kr6
  go_region_held3 (fun w1 => w1.cell? ⟨w.heap.size, 0, none⟩ = some (.slice a1 d.fl.length c1) ∧ w1.cell? ⟨w.heap.size, 1, none⟩ = some (.slice a2 d.pr.length c2) ∧ w1.cell? ⟨w.heap.size, 2, none⟩ = some (.slice a3 d.gl.length c3) ∧ w1.cell? ⟨w.heap.size, 3, none⟩ = some (.slice a4 d.ob.length c4) ∧ w1.cell? ⟨w.heap.size, 4, none⟩ = some (.slice (some ⟨b, off, none⟩) d.ve.length c5) ∧ w1.cell? ⟨w.heap.size, 5, none⟩ = some (.slice a6 d.fu.length c6) ∧ w1.cell? ⟨w.heap.size, 6, none⟩ = some (.slice a7 d.da.length c7)) (go_keep) (first | fail)
  go_wp2
  have g := BK.drewD (((((((HR.out.set 0 (.slice a1 d.fl.length c1)).set 1 (.slice a2 d.pr.length c2)).set 2 (.slice a3 d.gl.length c3)).set 3 (.slice a4 d.ob.length c4)).set 4 (.slice (some ⟨b, off, none⟩) k c5)).set 5 (nilV)).set 6 (nilV))
  have g0 := g.cell 0
  have g1 := g.cell 1
  have g2 := g.cell 2
  have g3 := g.cell 3
  have g4 := g.cell 4
  have g5 := g.cell 5
  have g6 := g.cell 6
  simp only [List.getElem?_cons_zero, List.getElem?_cons_succ, List.set_cons_zero, List.set_cons_succ] at g0 g1 g2 g3 g4 g5 g6
  clear g
  have hB9 := (bl_s (k := w.heap.size + 2) (bl_s (k := w.heap.size + 2) (bl_s (k := w.heap.size + 2) (bl_s (k := w.heap.size + 2) (bl_s (k := w.heap.size + 2) (bl_s (k := w.heap.size + 2) (bl_s (k := w.heap.size + 2) (HB.out) 0 (.slice a1 d.fl.length c1)) 1 (.slice a2 d.pr.length c2)) 2 (.slice a3 d.gl.length c3)) 3 (.slice a4 d.ob.length c4)) 4 (.slice (some ⟨b, off, none⟩) k c5)) 5 (nilV)) 6 (nilV)).drew
  refine bodyPost_ret (v := .tuple #[.slice (some ⟨b, off, none⟩) d.ve.length c5, .agg #[.slice a1 d.fl.length c1, .slice a2 d.pr.length c2, .slice a3 d.gl.length c3, .slice a4 d.ob.length c4, .slice (some ⟨b, off, none⟩) k c5, nilV, nilV]]) ?_ rfl ⟨_, _, _, _, _, _, _, _, rfl, ?_, hB9⟩
  · rw [results_tmp_cell rfl]; go_simp
  · intro w0 h0
    exact ⟨h0.ve, (show DeclIs _ _ _ _ _ _ _ _ ⟨d.fl, d.pr, d.gl, d.ob, d.ve.take k, [], []⟩ from ⟨h0.fl, h0.pr, h0.gl, h0.ob, reads_take h0.ve (by omega), reads_nil _, reads_nil _⟩)⟩
set_option maxRecDepth 100000 in
set_option maxHeartbeats 4000000 in
theorem ahead8 (q1 q2 q3 q4 q5 q6 q7 : Value) (d : DC) (c : Int) (k : Nat) (s : ByteArray) (w : World) (hs : DeclIs w q1 q2 q3 q4 q5 q6 q7 d) (hd : cntD d ≤ 9000000000000000) (hk : k < d.fu.length) :
    Calls Try.prog 14 #[declV q1 q2 q3 q4 q5 q6 q7, .agg #[.int .i64 c, .int .i64 8, .int .i64 k, .string s]] w fun e w' => ∃ lv u1 u2 u3 u4 u5 u6 u7, e = .returned (.tuple #[lv, declV u1 u2 u3 u4 u5 u6 u7]) ∧ (∀ w0 : World, DeclIs w0 q1 q2 q3 q4 q5 q6 q7 d → Reads Cd.str.seq w0 lv d.fu ∧ DeclIs w0 u1 u2 u3 u4 u5 u6 u7 (aheadD d 8 k)) ∧ Below w.heap.size w w' := by
  obtain ⟨b, off, cap, e2, hcap, hlt, hc⟩ := str_open hs.fu (by omega)
  obtain ⟨a1, c1, h1, g1, m1⟩ := hs.fl.len
  obtain ⟨a2, c2, h2, g2, m2⟩ := hs.pr.len
  obtain ⟨a3, c3, h3, g3, m3⟩ := hs.gl.len
  obtain ⟨a4, c4, h4, g4, m4⟩ := hs.ob.len
  obtain ⟨a5, c5, h5, g5, m5⟩ := hs.ve.len
  obtain ⟨a6, c6, h6, g6, m6⟩ := hs.fu.len
  obtain ⟨a7, c7, h7, g7, m7⟩ := hs.da.len
  subst h1 h2 h3 h4 h5 h6 h7
  have hac : a6 = some ⟨b, off, none⟩ := by simp at e2; exact e2.1
  subst hac
  have HS := Lib.hid hs
  clear hs m1 m2 m3 m4 m5 m6 m7 e2 hc
  have hll : d.fu.length ≤ 9000000000000000 := by unfold cntD at hd; omega
  have hk0 : (0 : Int) ≤ (k : Int) := by omega
  have hk1 : (k : Int) < (d.fu.length : Int) := by omega
  have hmin : min (k : Int) (d.fu.length : Int) = (k : Int) := Int.min_eq_left (by omega)
  have hkc : k ≤ c6 := by omega
  clear hd
  unfold declV
  go_enter Try.func14, Try.ntmps14
  go_wp2
  simp only [Nat.add_assoc, Nat.reduceAdd]
  have hk1' := ((BK.new w (declC (.slice a1 d.fl.length c1) (.slice a2 d.pr.length c2) (.slice a3 d.gl.length c3) (.slice a4 d.ob.length c4) (.slice a5 d.ve.length c5) (.slice (some ⟨b, off, none⟩) d.fu.length c6) (.slice a7 d.da.length c7)) 24).alloc (.cells #[.int .i64 c, .int .i64 8, .int .i64 k, .string s] 30)).alloc (.cells (declC nilV nilV nilV nilV nilV nilV nilV).toArray 24)
  have hk3 := BK_at (w := (w.alloc (.cells (declC (.slice a1 d.fl.length c1) (.slice a2 d.pr.length c2) (.slice a3 d.gl.length c3) (.slice a4 d.ob.length c4) (.slice a5 d.ve.length c5) (.slice (some ⟨b, off, none⟩) d.fu.length c6) (.slice a7 d.da.length c7)).toArray 24)).alloc (.cells #[.int .i64 c, .int .i64 8, .int .i64 k, .string s] 30)) (n := w.heap.size + 2) (by simp) (declC nilV nilV nilV nilV nilV nilV nilV) 24
  have hb0 := bl_a (bl_a (bl_a (Below.refl w.heap.size w) (.cells (declC (.slice a1 d.fl.length c1) (.slice a2 d.pr.length c2) (.slice a3 d.gl.length c3) (.slice a4 d.ob.length c4) (.slice a5 d.ve.length c5) (.slice (some ⟨b, off, none⟩) d.fu.length c6) (.slice a7 d.da.length c7)).toArray 24)) (.cells #[.int .i64 c, .int .i64 8, .int .i64 k, .string s] 30)) (.cells (declC nilV nilV nilV nilV nilV nilV nilV).toArray 24)
  unfold declC at hk1' hk3 hb0
  obtain ⟨W, hW⟩ : ∃ W, ((w.alloc (.cells #[.slice a1 d.fl.length c1, .slice a2 d.pr.length c2, .slice a3 d.gl.length c3, .slice a4 d.ob.length c4, .slice a5 d.ve.length c5, .slice (some ⟨b, off, none⟩) d.fu.length c6, .slice a7 d.da.length c7] 24)).alloc (.cells #[.int .i64 c, .int .i64 8, .int .i64 k, .string s] 30)).alloc (.cells #[nilV, nilV, nilV, nilV, nilV, nilV, nilV] 24) = W := ⟨_, rfl⟩
  have HK := Lib.hid hk1'
  have HR := Lib.hid hk3
  have HB := Lib.hid hb0
  change Hid (BK (((w.alloc (.cells #[.slice a1 d.fl.length c1, .slice a2 d.pr.length c2, .slice a3 d.gl.length c3, .slice a4 d.ob.length c4, .slice a5 d.ve.length c5, .slice (some ⟨b, off, none⟩) d.fu.length c6, .slice a7 d.da.length c7] 24)).alloc (.cells #[.int .i64 c, .int .i64 8, .int .i64 k, .string s] 30)).alloc (.cells #[nilV, nilV, nilV, nilV, nilV, nilV, nilV] 24)) w.heap.size _ _) at HK
  change Hid (BK (((w.alloc (.cells #[.slice a1 d.fl.length c1, .slice a2 d.pr.length c2, .slice a3 d.gl.length c3, .slice a4 d.ob.length c4, .slice a5 d.ve.length c5, .slice (some ⟨b, off, none⟩) d.fu.length c6, .slice a7 d.da.length c7] 24)).alloc (.cells #[.int .i64 c, .int .i64 8, .int .i64 k, .string s] 30)).alloc (.cells #[nilV, nilV, nilV, nilV, nilV, nilV, nilV] 24)) (w.heap.size + 2) _ _) at HR
  change Hid (Below w.heap.size w (((w.alloc (.cells #[.slice a1 d.fl.length c1, .slice a2 d.pr.length c2, .slice a3 d.gl.length c3, .slice a4 d.ob.length c4, .slice a5 d.ve.length c5, .slice (some ⟨b, off, none⟩) d.fu.length c6, .slice a7 d.da.length c7] 24)).alloc (.cells #[.int .i64 c, .int .i64 8, .int .i64 k, .string s] 30)).alloc (.cells #[nilV, nilV, nilV, nilV, nilV, nilV, nilV] 24))) at HB
  rw [hW] at HK HR HB
  rw [hW]
  clear hW hk1' hk3 hb0
  have kd0 := HK.out.cell 0
  have kd1 := HK.out.cell 1
  have kd2 := HK.out.cell 2
  have kd3 := HK.out.cell 3
  have kd4 := HK.out.cell 4
  have kd5 := HK.out.cell 5
  have kd6 := HK.out.cell 6
  have kr0 := HR.out.cell 0
  have kr1 := HR.out.cell 1
  have kr2 := HR.out.cell 2
  have kr3 := HR.out.cell 3
  have kr4 := HR.out.cell 4
  have kr5 := HR.out.cell 5
  have kr6 := HR.out.cell 6
  have kf0 := HR.out.fr 0
  have kf1 := HR.out.fr 1
  have kf2 := HR.out.fr 2
  have kf3 := HR.out.fr 3
  have kf4 := HR.out.fr 4
  have kf5 := HR.out.fr 5
  have kf6 := HR.out.fr 6
  simp only [List.getElem?_cons_zero, List.getElem?_cons_succ] at kd0 kd1 kd2 kd3 kd4 kd5 kd6 kr0 kr1 kr2 kr3 kr4 kr5 kr6
  go_region_held3 (fun w1 => w1.cell? ⟨w.heap.size, 0, none⟩ = some (.slice a1 d.fl.length c1) ∧ w1.cell? ⟨w.heap.size, 1, none⟩ = some (.slice a2 d.pr.length c2) ∧ w1.cell? ⟨w.heap.size, 2, none⟩ = some (.slice a3 d.gl.length c3) ∧ w1.cell? ⟨w.heap.size, 3, none⟩ = some (.slice a4 d.ob.length c4) ∧ w1.cell? ⟨w.heap.size, 4, none⟩ = some (.slice a5 d.ve.length c5) ∧ w1.cell? ⟨w.heap.size, 5, none⟩ = some (.slice (some ⟨b, off, none⟩) d.fu.length c6) ∧ w1.cell? ⟨w.heap.size, 6, none⟩ = some (.slice a7 d.da.length c7)) (go_keep) (first | fail)
  go_wp2
  have g := BK.drewD (((((((HR.out.set 0 (.slice a1 d.fl.length c1)).set 1 (.slice a2 d.pr.length c2)).set 2 (.slice a3 d.gl.length c3)).set 3 (.slice a4 d.ob.length c4)).set 4 (.slice a5 d.ve.length c5)).set 5 (.slice (some ⟨b, off, none⟩) k c6)).set 6 (nilV))
  have g0 := g.cell 0
  have g1 := g.cell 1
  have g2 := g.cell 2
  have g3 := g.cell 3
  have g4 := g.cell 4
  have g5 := g.cell 5
  have g6 := g.cell 6
  simp only [List.getElem?_cons_zero, List.getElem?_cons_succ, List.set_cons_zero, List.set_cons_succ] at g0 g1 g2 g3 g4 g5 g6
  clear g
  have hB9 := (bl_s (k := w.heap.size + 2) (bl_s (k := w.heap.size + 2) (bl_s (k := w.heap.size + 2) (bl_s (k := w.heap.size + 2) (bl_s (k := w.heap.size + 2) (bl_s (k := w.heap.size + 2) (bl_s (k := w.heap.size + 2) (HB.out) 0 (.slice a1 d.fl.length c1)) 1 (.slice a2 d.pr.length c2)) 2 (.slice a3 d.gl.length c3)) 3 (.slice a4 d.ob.length c4)) 4 (.slice a5 d.ve.length c5)) 5 (.slice (some ⟨b, off, none⟩) k c6)) 6 (nilV)).drew
  refine bodyPost_ret (v := .tuple #[.slice (some ⟨b, off, none⟩) d.fu.length c6, .agg #[.slice a1 d.fl.length c1, .slice a2 d.pr.length c2, .slice a3 d.gl.length c3, .slice a4 d.ob.length c4, .slice a5 d.ve.length c5, .slice (some ⟨b, off, none⟩) k c6, nilV]]) ?_ rfl ⟨_, _, _, _, _, _, _, _, rfl, ?_, hB9⟩
  · rw [results_tmp_cell rfl]; go_simp
  · intro w0 h0
    exact ⟨h0.fu, (show DeclIs _ _ _ _ _ _ _ _ ⟨d.fl, d.pr, d.gl, d.ob, d.ve, d.fu.take k, []⟩ from ⟨h0.fl, h0.pr, h0.gl, h0.ob, h0.ve, reads_take h0.fu (by omega), reads_nil _⟩)⟩
set_option maxRecDepth 100000 in
set_option maxHeartbeats 4000000 in
theorem ahead9 (q1 q2 q3 q4 q5 q6 q7 : Value) (d : DC) (c : Int) (k : Nat) (s : ByteArray) (w : World) (hs : DeclIs w q1 q2 q3 q4 q5 q6 q7 d) (hd : cntD d ≤ 9000000000000000) (hk : k < d.da.length) :
    Calls Try.prog 14 #[declV q1 q2 q3 q4 q5 q6 q7, .agg #[.int .i64 c, .int .i64 9, .int .i64 k, .string s]] w fun e w' => ∃ lv u1 u2 u3 u4 u5 u6 u7, e = .returned (.tuple #[lv, declV u1 u2 u3 u4 u5 u6 u7]) ∧ (∀ w0 : World, DeclIs w0 q1 q2 q3 q4 q5 q6 q7 d → Reads Cd.str.seq w0 lv d.da ∧ DeclIs w0 u1 u2 u3 u4 u5 u6 u7 (aheadD d 9 k)) ∧ Below w.heap.size w w' := by
  obtain ⟨b, off, cap, e2, hcap, hlt, hc⟩ := str_open hs.da (by omega)
  obtain ⟨a1, c1, h1, g1, m1⟩ := hs.fl.len
  obtain ⟨a2, c2, h2, g2, m2⟩ := hs.pr.len
  obtain ⟨a3, c3, h3, g3, m3⟩ := hs.gl.len
  obtain ⟨a4, c4, h4, g4, m4⟩ := hs.ob.len
  obtain ⟨a5, c5, h5, g5, m5⟩ := hs.ve.len
  obtain ⟨a6, c6, h6, g6, m6⟩ := hs.fu.len
  obtain ⟨a7, c7, h7, g7, m7⟩ := hs.da.len
  subst h1 h2 h3 h4 h5 h6 h7
  have hac : a7 = some ⟨b, off, none⟩ := by simp at e2; exact e2.1
  subst hac
  have HS := Lib.hid hs
  clear hs m1 m2 m3 m4 m5 m6 m7 e2 hc
  have hll : d.da.length ≤ 9000000000000000 := by unfold cntD at hd; omega
  have hk0 : (0 : Int) ≤ (k : Int) := by omega
  have hk1 : (k : Int) < (d.da.length : Int) := by omega
  have hmin : min (k : Int) (d.da.length : Int) = (k : Int) := Int.min_eq_left (by omega)
  have hkc : k ≤ c7 := by omega
  clear hd
  unfold declV
  go_enter Try.func14, Try.ntmps14
  go_wp2
  simp only [Nat.add_assoc, Nat.reduceAdd]
  have hk1' := ((BK.new w (declC (.slice a1 d.fl.length c1) (.slice a2 d.pr.length c2) (.slice a3 d.gl.length c3) (.slice a4 d.ob.length c4) (.slice a5 d.ve.length c5) (.slice a6 d.fu.length c6) (.slice (some ⟨b, off, none⟩) d.da.length c7)) 24).alloc (.cells #[.int .i64 c, .int .i64 9, .int .i64 k, .string s] 30)).alloc (.cells (declC nilV nilV nilV nilV nilV nilV nilV).toArray 24)
  have hk3 := BK_at (w := (w.alloc (.cells (declC (.slice a1 d.fl.length c1) (.slice a2 d.pr.length c2) (.slice a3 d.gl.length c3) (.slice a4 d.ob.length c4) (.slice a5 d.ve.length c5) (.slice a6 d.fu.length c6) (.slice (some ⟨b, off, none⟩) d.da.length c7)).toArray 24)).alloc (.cells #[.int .i64 c, .int .i64 9, .int .i64 k, .string s] 30)) (n := w.heap.size + 2) (by simp) (declC nilV nilV nilV nilV nilV nilV nilV) 24
  have hb0 := bl_a (bl_a (bl_a (Below.refl w.heap.size w) (.cells (declC (.slice a1 d.fl.length c1) (.slice a2 d.pr.length c2) (.slice a3 d.gl.length c3) (.slice a4 d.ob.length c4) (.slice a5 d.ve.length c5) (.slice a6 d.fu.length c6) (.slice (some ⟨b, off, none⟩) d.da.length c7)).toArray 24)) (.cells #[.int .i64 c, .int .i64 9, .int .i64 k, .string s] 30)) (.cells (declC nilV nilV nilV nilV nilV nilV nilV).toArray 24)
  unfold declC at hk1' hk3 hb0
  obtain ⟨W, hW⟩ : ∃ W, ((w.alloc (.cells #[.slice a1 d.fl.length c1, .slice a2 d.pr.length c2, .slice a3 d.gl.length c3, .slice a4 d.ob.length c4, .slice a5 d.ve.length c5, .slice a6 d.fu.length c6, .slice (some ⟨b, off, none⟩) d.da.length c7] 24)).alloc (.cells #[.int .i64 c, .int .i64 9, .int .i64 k, .string s] 30)).alloc (.cells #[nilV, nilV, nilV, nilV, nilV, nilV, nilV] 24) = W := ⟨_, rfl⟩
  have HK := Lib.hid hk1'
  have HR := Lib.hid hk3
  have HB := Lib.hid hb0
  change Hid (BK (((w.alloc (.cells #[.slice a1 d.fl.length c1, .slice a2 d.pr.length c2, .slice a3 d.gl.length c3, .slice a4 d.ob.length c4, .slice a5 d.ve.length c5, .slice a6 d.fu.length c6, .slice (some ⟨b, off, none⟩) d.da.length c7] 24)).alloc (.cells #[.int .i64 c, .int .i64 9, .int .i64 k, .string s] 30)).alloc (.cells #[nilV, nilV, nilV, nilV, nilV, nilV, nilV] 24)) w.heap.size _ _) at HK
  change Hid (BK (((w.alloc (.cells #[.slice a1 d.fl.length c1, .slice a2 d.pr.length c2, .slice a3 d.gl.length c3, .slice a4 d.ob.length c4, .slice a5 d.ve.length c5, .slice a6 d.fu.length c6, .slice (some ⟨b, off, none⟩) d.da.length c7] 24)).alloc (.cells #[.int .i64 c, .int .i64 9, .int .i64 k, .string s] 30)).alloc (.cells #[nilV, nilV, nilV, nilV, nilV, nilV, nilV] 24)) (w.heap.size + 2) _ _) at HR
  change Hid (Below w.heap.size w (((w.alloc (.cells #[.slice a1 d.fl.length c1, .slice a2 d.pr.length c2, .slice a3 d.gl.length c3, .slice a4 d.ob.length c4, .slice a5 d.ve.length c5, .slice a6 d.fu.length c6, .slice (some ⟨b, off, none⟩) d.da.length c7] 24)).alloc (.cells #[.int .i64 c, .int .i64 9, .int .i64 k, .string s] 30)).alloc (.cells #[nilV, nilV, nilV, nilV, nilV, nilV, nilV] 24))) at HB
  rw [hW] at HK HR HB
  rw [hW]
  clear hW hk1' hk3 hb0
  have kd0 := HK.out.cell 0
  have kd1 := HK.out.cell 1
  have kd2 := HK.out.cell 2
  have kd3 := HK.out.cell 3
  have kd4 := HK.out.cell 4
  have kd5 := HK.out.cell 5
  have kd6 := HK.out.cell 6
  have kr0 := HR.out.cell 0
  have kr1 := HR.out.cell 1
  have kr2 := HR.out.cell 2
  have kr3 := HR.out.cell 3
  have kr4 := HR.out.cell 4
  have kr5 := HR.out.cell 5
  have kr6 := HR.out.cell 6
  have kf0 := HR.out.fr 0
  have kf1 := HR.out.fr 1
  have kf2 := HR.out.fr 2
  have kf3 := HR.out.fr 3
  have kf4 := HR.out.fr 4
  have kf5 := HR.out.fr 5
  have kf6 := HR.out.fr 6
  simp only [List.getElem?_cons_zero, List.getElem?_cons_succ] at kd0 kd1 kd2 kd3 kd4 kd5 kd6 kr0 kr1 kr2 kr3 kr4 kr5 kr6
  go_region_held3 (fun w1 => w1.cell? ⟨w.heap.size, 0, none⟩ = some (.slice a1 d.fl.length c1) ∧ w1.cell? ⟨w.heap.size, 1, none⟩ = some (.slice a2 d.pr.length c2) ∧ w1.cell? ⟨w.heap.size, 2, none⟩ = some (.slice a3 d.gl.length c3) ∧ w1.cell? ⟨w.heap.size, 3, none⟩ = some (.slice a4 d.ob.length c4) ∧ w1.cell? ⟨w.heap.size, 4, none⟩ = some (.slice a5 d.ve.length c5) ∧ w1.cell? ⟨w.heap.size, 5, none⟩ = some (.slice a6 d.fu.length c6) ∧ w1.cell? ⟨w.heap.size, 6, none⟩ = some (.slice (some ⟨b, off, none⟩) d.da.length c7)) (go_keep) (first | fail)
  go_wp2
  have g := BK.drewD (((((((HR.out.set 0 (.slice a1 d.fl.length c1)).set 1 (.slice a2 d.pr.length c2)).set 2 (.slice a3 d.gl.length c3)).set 3 (.slice a4 d.ob.length c4)).set 4 (.slice a5 d.ve.length c5)).set 5 (.slice a6 d.fu.length c6)).set 6 (.slice (some ⟨b, off, none⟩) k c7))
  have g0 := g.cell 0
  have g1 := g.cell 1
  have g2 := g.cell 2
  have g3 := g.cell 3
  have g4 := g.cell 4
  have g5 := g.cell 5
  have g6 := g.cell 6
  simp only [List.getElem?_cons_zero, List.getElem?_cons_succ, List.set_cons_zero, List.set_cons_succ] at g0 g1 g2 g3 g4 g5 g6
  clear g
  have hB9 := (bl_s (k := w.heap.size + 2) (bl_s (k := w.heap.size + 2) (bl_s (k := w.heap.size + 2) (bl_s (k := w.heap.size + 2) (bl_s (k := w.heap.size + 2) (bl_s (k := w.heap.size + 2) (bl_s (k := w.heap.size + 2) (HB.out) 0 (.slice a1 d.fl.length c1)) 1 (.slice a2 d.pr.length c2)) 2 (.slice a3 d.gl.length c3)) 3 (.slice a4 d.ob.length c4)) 4 (.slice a5 d.ve.length c5)) 5 (.slice a6 d.fu.length c6)) 6 (.slice (some ⟨b, off, none⟩) k c7)).drew
  refine bodyPost_ret (v := .tuple #[.slice (some ⟨b, off, none⟩) d.da.length c7, .agg #[.slice a1 d.fl.length c1, .slice a2 d.pr.length c2, .slice a3 d.gl.length c3, .slice a4 d.ob.length c4, .slice a5 d.ve.length c5, .slice a6 d.fu.length c6, .slice (some ⟨b, off, none⟩) k c7]]) ?_ rfl ⟨_, _, _, _, _, _, _, _, rfl, ?_, hB9⟩
  · rw [results_tmp_cell rfl]; go_simp
  · intro w0 h0
    exact ⟨h0.da, (show DeclIs _ _ _ _ _ _ _ _ ⟨d.fl, d.pr, d.gl, d.ob, d.ve, d.fu, d.da.take k⟩ from ⟨h0.fl, h0.pr, h0.gl, h0.ob, h0.ve, h0.fu, reads_take h0.da (by omega)⟩)⟩
theorem lawAhead (q1 q2 q3 q4 q5 q6 q7 : Value) (d : DC) (c part : Int) (k : Nat) (s : ByteArray) (w : World) (hs : DeclIs w q1 q2 q3 q4 q5 q6 q7 d) (hd : cntD d ≤ 9000000000000000)
    (hp : part = 2 ∨ part = 3 ∨ part = 4 ∨ part = 5 ∨ part = 6 ∨ part = 8 ∨ part = 9) (hk : k < (aheadL d part).length) :
    Calls Try.prog 14 #[declV q1 q2 q3 q4 q5 q6 q7, .agg #[.int .i64 c, .int .i64 part, .int .i64 k, .string s]] w fun e w' => ∃ lv u1 u2 u3 u4 u5 u6 u7, e = .returned (.tuple #[lv, declV u1 u2 u3 u4 u5 u6 u7]) ∧ (∀ w0 : World, DeclIs w0 q1 q2 q3 q4 q5 q6 q7 d → Reads Cd.str.seq w0 lv (aheadL d part) ∧ DeclIs w0 u1 u2 u3 u4 u5 u6 u7 (aheadD d part k)) ∧ Below w.heap.size w w' := by
  rcases hp with rfl | rfl | rfl | rfl | rfl | rfl | rfl
  · have e : aheadL d 2 = d.fl := rfl
    rw [e] at hk ⊢; exact ahead2 _ _ _ _ _ _ _ d c k s w hs hd hk
  · have e : aheadL d 3 = d.pr := rfl
    rw [e] at hk ⊢; exact ahead3 _ _ _ _ _ _ _ d c k s w hs hd hk
  · have e : aheadL d 4 = d.gl := rfl
    rw [e] at hk ⊢; exact ahead4 _ _ _ _ _ _ _ d c k s w hs hd hk
  · have e : aheadL d 5 = d.ob := rfl
    rw [e] at hk ⊢; exact ahead5 _ _ _ _ _ _ _ d c k s w hs hd hk
  · have e : aheadL d 6 = d.ve := rfl
    rw [e] at hk ⊢; exact ahead6 _ _ _ _ _ _ _ d c k s w hs hd hk
  · have e : aheadL d 8 = d.fu := rfl
    rw [e] at hk ⊢; exact ahead8 _ _ _ _ _ _ _ d c k s w hs hd hk
  · have e : aheadL d 9 = d.da := rfl
    rw [e] at hk ⊢; exact ahead9 _ _ _ _ _ _ _ d c k s w hs hd hk
end Go.Proofs.Ytdommneciojiaaa
