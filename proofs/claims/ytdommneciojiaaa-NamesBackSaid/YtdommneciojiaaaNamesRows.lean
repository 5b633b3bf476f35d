/- Contract of names.rows: the names of a source's parts. -/
import Derived.Test.YtdommneciojiaaaNamesSrc
import Derived.Deep.RegionHeld3
namespace Go.Proofs.Ytdommneciojiaaa
open Go.RowKit Go.PlainAid
set_option linter.unusedVariables false
set_option linter.unusedSimpArgs false

/-- A source that declares names, no more. -/
def srcV (f p g o v fn dm : Value) : Value := .agg #[.string ⟨#[]⟩, .string ⟨#[]⟩, .string ⟨#[]⟩, .int .i64 0, .int .i64 0, f, p, g, o, v, nilV, fn, dm]
structure SrcIs (w : World) (f p g o v fn dm : Value) (d : DC) : Prop where
  fl : Reads Cd.str.seq w f d.fl
  pr : Reads Cd.pair.seq w p d.pr
  gl : Reads Cd.pair.seq w g d.gl
  ob : Reads Cd.obj.seq w o d.ob
  ve : Reads Cd.verb.seq w v d.ve
  fu : Reads Cd.func.seq w fn d.fu
  da : Reads Cd.func.seq w dm d.da
theorem SrcIs.below {w w' : World} {f p g o v fn dm : Value} {d : DC} (h : SrcIs w f p g o v fn dm d) (hb : Below w.heap.size w w') : SrcIs w' f p g o v fn dm d :=
  ⟨h.fl.below hb, h.pr.below hb, h.gl.below hb, h.ob.below hb, h.ve.below hb, h.fu.below hb, h.da.below hb⟩
/-- No part has more than so many. -/
structure DC.few (d : DC) (n : Nat) : Prop where
  fl : d.fl.length ≤ n
  pr : d.pr.length ≤ n
  gl : d.gl.length ≤ n
  ob : d.ob.length ≤ n
  ve : d.ve.length ≤ n
  fu : d.fu.length ≤ n
  da : d.da.length ≤ n
/-- Texts that the call owns, read. -/
theorem OwS.reads {w : World} {base : Nat} {v : Value} {L : List (List UInt8)} (h : OwS w base v L) (hm : L.length ≤ maxLen) (hx : ∀ x ∈ L, x.length ≤ maxLen) : SL w v (L.map strV) := h.sl hm
theorem OwS.lower {w : World} {base base' : Nat} {v : Value} {L : List (List UInt8)} (h : OwS w base v L) (hb : base' ≤ base) : OwS w base' v L := by
  refine ⟨h.1, ?_⟩
  rcases h.2 with h0 | ⟨g, cap, cur, e, hbg, r⟩
  · exact .inl h0
  · exact .inr ⟨g, cap, cur, e, Nat.le_trans hb hbg, r⟩
theorem OwS.below {w w' : World} {base : Nat} {v : Value} {L : List (List UInt8)} (h : OwS w base v L) (hb : Below w.heap.size w w') : OwS w' base v L := ow_below h hb
/-- The cells of a row. -/
def rowC (kd part most from_ : Int) (v : Value) : List Value := [.int .i64 kd, .int .i64 part, .int .i64 most, .int .i64 from_, v]
def rowsC (f p g o v fn dm : Value) : List Value :=
  rowC 1 2 12 4 f ++ (rowC 2 3 16 0 p ++ (rowC 3 4 64 0 g ++ (rowC 4 5 126 2 o ++ (rowC 5 6 64 0 v ++ (rowC 6 8 64 0 fn ++ rowC 7 9 16 0 dm)))))
set_option maxRecDepth 100000 in
set_option maxHeartbeats 8000000 in
theorem namesRows (f p g o v fn dm : Value) (d : DC) (w : World) (hs : SrcIs w f p g o v fn dm d) (hd : d.few 100000) :
    Calls Try.prog 25 #[srcV f p g o v fn dm] w fun e w' => ∃ (k : Nat) (T : TypeId) (v1 v2 v3 v4 v5 v6 : Value), e = .returned (.slice (some ⟨k, 0, none⟩) 7 7) ∧ BK w' k (rowsC f v1 v2 v3 v4 v5 v6) T ∧
      OwS w' w.heap.size v1 d.pr ∧ OwS w' w.heap.size v2 d.gl ∧ OwS w' w.heap.size v3 d.ob ∧ OwS w' w.heap.size v4 d.ve ∧ OwS w' w.heap.size v5 d.fu ∧ OwS w' w.heap.size v6 d.da ∧ Below w.heap.size w w' ∧ w.heap.size ≤ k := by
  have HS := Lib.hid hs
  have HD := Lib.hid hd
  obtain ⟨a1, c1, h1, g1, m1⟩ := hs.fl.len
  obtain ⟨a2, c2, h2, g2, m2⟩ := hs.pr.len
  obtain ⟨a3, c3, h3, g3, m3⟩ := hs.gl.len
  obtain ⟨a4, c4, h4, g4, m4⟩ := hs.ob.len
  obtain ⟨a5, c5, h5, g5, m5⟩ := hs.ve.len
  obtain ⟨a6, c6, h6, g6, m6⟩ := hs.fu.len
  obtain ⟨a7, c7, h7, g7, m7⟩ := hs.da.len
  subst h1 h2 h3 h4 h5 h6 h7
  clear hs hd
  unfold srcV
  go_enter Try.func25, Try.ntmps25
  go_wp2_with fail
  have FB := BK.new w [.string ⟨#[]⟩, .string ⟨#[]⟩, .string ⟨#[]⟩, .int .i64 0, .int .i64 0, .slice a1 d.fl.length c1, .slice a2 d.pr.length c2, .slice a3 d.gl.length c3, .slice a4 d.ob.length c4, .slice a5 d.ve.length c5, nilV, .slice a6 d.fu.length c6, .slice a7 d.da.length c7] 39
  have hB0 : Below w.heap.size w (w.alloc (.cells #[.string ⟨#[]⟩, .string ⟨#[]⟩, .string ⟨#[]⟩, .int .i64 0, .int .i64 0, .slice a1 d.fl.length c1, .slice a2 d.pr.length c2, .slice a3 d.gl.length c3, .slice a4 d.ob.length c4, .slice a5 d.ve.length c5, nilV, .slice a6 d.fu.length c6, .slice a7 d.da.length c7] 39)) := bl_a (Below.refl _ _) _
  obtain ⟨W0, hW0⟩ : ∃ W0, w.alloc (.cells #[.string ⟨#[]⟩, .string ⟨#[]⟩, .string ⟨#[]⟩, .int .i64 0, .int .i64 0, .slice a1 d.fl.length c1, .slice a2 d.pr.length c2, .slice a3 d.gl.length c3, .slice a4 d.ob.length c4, .slice a5 d.ve.length c5, nilV, .slice a6 d.fu.length c6, .slice a7 d.da.length c7] 39) = W0 := ⟨_, rfl⟩
  rw [show w.alloc (.cells ([.string ⟨#[]⟩, .string ⟨#[]⟩, .string ⟨#[]⟩, .int .i64 0, .int .i64 0, .slice a1 d.fl.length c1, .slice a2 d.pr.length c2, .slice a3 d.gl.length c3, .slice a4 d.ob.length c4, .slice a5 d.ve.length c5, nilV, .slice a6 d.fu.length c6, .slice a7 d.da.length c7] : List Value).toArray 39) = W0 from hW0] at FB
  rw [hW0] at hB0 ⊢
  have HB0 : Hid (Below w.heap.size w (W0.drew)) := Lib.hid (bl_drewN hB0 1)
  have HL0 : Hid (w.heap.size < (W0.drew).heap.size) := Lib.hid FB.lt
  have z5 : W0.cell? ⟨w.heap.size, 5, none⟩ = some (.slice a1 d.fl.length c1) := FB.cell 5
  have z6 : W0.cell? ⟨w.heap.size, 6, none⟩ = some (.slice a2 d.pr.length c2) := FB.cell 6
  have z7 : W0.cell? ⟨w.heap.size, 7, none⟩ = some (.slice a3 d.gl.length c3) := FB.cell 7
  have z8 : W0.cell? ⟨w.heap.size, 8, none⟩ = some (.slice a4 d.ob.length c4) := FB.cell 8
  have z9 : W0.cell? ⟨w.heap.size, 9, none⟩ = some (.slice a5 d.ve.length c5) := FB.cell 9
  have z11 : W0.cell? ⟨w.heap.size, 11, none⟩ = some (.slice a6 d.fu.length c6) := FB.cell 11
  have z12 : W0.cell? ⟨w.heap.size, 12, none⟩ = some (.slice a7 d.da.length c7) := FB.cell 12
  clear hW0 FB hB0
  go_region_held3 (fun w' => w'.cell? ⟨w.heap.size, 5, none⟩ = some (.slice a1 d.fl.length c1) ∧ w'.cell? ⟨w.heap.size, 6, none⟩ = some (.slice a2 d.pr.length c2) ∧ w'.cell? ⟨w.heap.size, 7, none⟩ = some (.slice a3 d.gl.length c3) ∧ w'.cell? ⟨w.heap.size, 8, none⟩ = some (.slice a4 d.ob.length c4) ∧ w'.cell? ⟨w.heap.size, 9, none⟩ = some (.slice a5 d.ve.length c5) ∧ w'.cell? ⟨w.heap.size, 11, none⟩ = some (.slice a6 d.fu.length c6) ∧ w'.cell? ⟨w.heap.size, 12, none⟩ = some (.slice a7 d.da.length c7))
    (first
      | (go_split_ands; exact ⟨(HK6.out.cell (p := ⟨w.heap.size, 5, none⟩) (HL5.out)).trans (by assumption), (HK6.out.cell (p := ⟨w.heap.size, 6, none⟩) (HL5.out)).trans (by assumption), (HK6.out.cell (p := ⟨w.heap.size, 7, none⟩) (HL5.out)).trans (by assumption), (HK6.out.cell (p := ⟨w.heap.size, 8, none⟩) (HL5.out)).trans (by assumption), (HK6.out.cell (p := ⟨w.heap.size, 9, none⟩) (HL5.out)).trans (by assumption), (HK6.out.cell (p := ⟨w.heap.size, 11, none⟩) (HL5.out)).trans (by assumption), (HK6.out.cell (p := ⟨w.heap.size, 12, none⟩) (HL5.out)).trans (by assumption)⟩)
      | (go_split_ands; exact ⟨(HK5.out.cell (p := ⟨w.heap.size, 5, none⟩) (HL4.out)).trans (by assumption), (HK5.out.cell (p := ⟨w.heap.size, 6, none⟩) (HL4.out)).trans (by assumption), (HK5.out.cell (p := ⟨w.heap.size, 7, none⟩) (HL4.out)).trans (by assumption), (HK5.out.cell (p := ⟨w.heap.size, 8, none⟩) (HL4.out)).trans (by assumption), (HK5.out.cell (p := ⟨w.heap.size, 9, none⟩) (HL4.out)).trans (by assumption), (HK5.out.cell (p := ⟨w.heap.size, 11, none⟩) (HL4.out)).trans (by assumption), (HK5.out.cell (p := ⟨w.heap.size, 12, none⟩) (HL4.out)).trans (by assumption)⟩)
      | (go_split_ands; exact ⟨(HK4.out.cell (p := ⟨w.heap.size, 5, none⟩) (HL3.out)).trans (by assumption), (HK4.out.cell (p := ⟨w.heap.size, 6, none⟩) (HL3.out)).trans (by assumption), (HK4.out.cell (p := ⟨w.heap.size, 7, none⟩) (HL3.out)).trans (by assumption), (HK4.out.cell (p := ⟨w.heap.size, 8, none⟩) (HL3.out)).trans (by assumption), (HK4.out.cell (p := ⟨w.heap.size, 9, none⟩) (HL3.out)).trans (by assumption), (HK4.out.cell (p := ⟨w.heap.size, 11, none⟩) (HL3.out)).trans (by assumption), (HK4.out.cell (p := ⟨w.heap.size, 12, none⟩) (HL3.out)).trans (by assumption)⟩)
      | (go_split_ands; exact ⟨(HK3.out.cell (p := ⟨w.heap.size, 5, none⟩) (HL2.out)).trans (by assumption), (HK3.out.cell (p := ⟨w.heap.size, 6, none⟩) (HL2.out)).trans (by assumption), (HK3.out.cell (p := ⟨w.heap.size, 7, none⟩) (HL2.out)).trans (by assumption), (HK3.out.cell (p := ⟨w.heap.size, 8, none⟩) (HL2.out)).trans (by assumption), (HK3.out.cell (p := ⟨w.heap.size, 9, none⟩) (HL2.out)).trans (by assumption), (HK3.out.cell (p := ⟨w.heap.size, 11, none⟩) (HL2.out)).trans (by assumption), (HK3.out.cell (p := ⟨w.heap.size, 12, none⟩) (HL2.out)).trans (by assumption)⟩)
      | (go_split_ands; exact ⟨(HK2.out.cell (p := ⟨w.heap.size, 5, none⟩) (HL1.out)).trans (by assumption), (HK2.out.cell (p := ⟨w.heap.size, 6, none⟩) (HL1.out)).trans (by assumption), (HK2.out.cell (p := ⟨w.heap.size, 7, none⟩) (HL1.out)).trans (by assumption), (HK2.out.cell (p := ⟨w.heap.size, 8, none⟩) (HL1.out)).trans (by assumption), (HK2.out.cell (p := ⟨w.heap.size, 9, none⟩) (HL1.out)).trans (by assumption), (HK2.out.cell (p := ⟨w.heap.size, 11, none⟩) (HL1.out)).trans (by assumption), (HK2.out.cell (p := ⟨w.heap.size, 12, none⟩) (HL1.out)).trans (by assumption)⟩)
      | (go_split_ands; exact ⟨(HK1.out.cell (p := ⟨w.heap.size, 5, none⟩) (HL0.out)).trans (by assumption), (HK1.out.cell (p := ⟨w.heap.size, 6, none⟩) (HL0.out)).trans (by assumption), (HK1.out.cell (p := ⟨w.heap.size, 7, none⟩) (HL0.out)).trans (by assumption), (HK1.out.cell (p := ⟨w.heap.size, 8, none⟩) (HL0.out)).trans (by assumption), (HK1.out.cell (p := ⟨w.heap.size, 9, none⟩) (HL0.out)).trans (by assumption), (HK1.out.cell (p := ⟨w.heap.size, 11, none⟩) (HL0.out)).trans (by assumption), (HK1.out.cell (p := ⟨w.heap.size, 12, none⟩) (HL0.out)).trans (by assumption)⟩)
      | (go_keep; done))
    (first
      | (go_at_call 47; refine (namFunc (.slice a7 d.da.length c7) d.da _ (HS.out.da.below HB5.out) HD.out.da).mono ?_; rintro e w6 ⟨r6, rfl, ho6, hb6⟩; obtain ⟨x6, y6, hr6⟩ := ow_shape ho6; subst hr6; have HO6 := Lib.hid ho6; have HK6 := Lib.hid hb6; have HB6 : Hid (Below w.heap.size w w6) := Lib.hid (HB5.out.trans (hb6.mono HB5.out.size)); have HZ6 := Lib.hid hb6.size; have HL6 := Lib.hid (Nat.lt_of_lt_of_le HL5.out HZ6.out); clear ho6 hb6)
      | (go_at_call 47; refine (namFunc (.slice a6 d.fu.length c6) d.fu _ (HS.out.fu.below HB4.out) HD.out.fu).mono ?_; rintro e w5 ⟨r5, rfl, ho5, hb5⟩; obtain ⟨x5, y5, hr5⟩ := ow_shape ho5; subst hr5; have HO5 := Lib.hid ho5; have HK5 := Lib.hid hb5; have HB5 : Hid (Below w.heap.size w w5) := Lib.hid (HB4.out.trans (hb5.mono HB4.out.size)); have HZ5 := Lib.hid hb5.size; have HL5 := Lib.hid (Nat.lt_of_lt_of_le HL4.out HZ5.out); clear ho5 hb5)
      | (go_at_call 46; refine (namVerb (.slice a5 d.ve.length c5) d.ve _ (HS.out.ve.below HB3.out) HD.out.ve).mono ?_; rintro e w4 ⟨r4, rfl, ho4, hb4⟩; obtain ⟨x4, y4, hr4⟩ := ow_shape ho4; subst hr4; have HO4 := Lib.hid ho4; have HK4 := Lib.hid hb4; have HB4 : Hid (Below w.heap.size w w4) := Lib.hid (HB3.out.trans (hb4.mono HB3.out.size)); have HZ4 := Lib.hid hb4.size; have HL4 := Lib.hid (Nat.lt_of_lt_of_le HL3.out HZ4.out); clear ho4 hb4)
      | (go_at_call 45; refine (namObject (.slice a4 d.ob.length c4) d.ob _ (HS.out.ob.below HB2.out) HD.out.ob).mono ?_; rintro e w3 ⟨r3, rfl, ho3, hb3⟩; obtain ⟨x3, y3, hr3⟩ := ow_shape ho3; subst hr3; have HO3 := Lib.hid ho3; have HK3 := Lib.hid hb3; have HB3 : Hid (Below w.heap.size w w3) := Lib.hid (HB2.out.trans (hb3.mono HB2.out.size)); have HZ3 := Lib.hid hb3.size; have HL3 := Lib.hid (Nat.lt_of_lt_of_le HL2.out HZ3.out); clear ho3 hb3)
      | (go_at_call 44; refine (namPair (.slice a3 d.gl.length c3) d.gl _ (HS.out.gl.below HB1.out) HD.out.gl).mono ?_; rintro e w2 ⟨r2, rfl, ho2, hb2⟩; obtain ⟨x2, y2, hr2⟩ := ow_shape ho2; subst hr2; have HO2 := Lib.hid ho2; have HK2 := Lib.hid hb2; have HB2 : Hid (Below w.heap.size w w2) := Lib.hid (HB1.out.trans (hb2.mono HB1.out.size)); have HZ2 := Lib.hid hb2.size; have HL2 := Lib.hid (Nat.lt_of_lt_of_le HL1.out HZ2.out); clear ho2 hb2)
      | (go_at_call 44; refine (namPair (.slice a2 d.pr.length c2) d.pr _ (HS.out.pr.below HB0.out) HD.out.pr).mono ?_; rintro e w1 ⟨r1, rfl, ho1, hb1⟩; obtain ⟨x1, y1, hr1⟩ := ow_shape ho1; subst hr1; have HO1 := Lib.hid ho1; have HK1 := Lib.hid hb1; have HB1 : Hid (Below w.heap.size w w1) := Lib.hid (HB0.out.trans (hb1.mono HB0.out.size)); have HZ1 := Lib.hid hb1.size; have HL1 := Lib.hid (Nat.lt_of_lt_of_le HL0.out HZ1.out); clear ho1 hb1))
  go_wp2
  go_ret
  have t6 := bl_a (Below.refl w6.heap.size w6) (.cells (rowsC (.slice a1 d.fl.length c1) (.slice x1 d.pr.length y1) (.slice x2 d.gl.length y2) (.slice x3 d.ob.length y3) (.slice x4 d.ve.length y4) (.slice x5 d.fu.length y5) (.slice x6 d.da.length y6)).toArray 64)
  have t5 := HK6.out.trans (t6.mono HZ6.out)
  have t4 := HK5.out.trans (t5.mono HZ5.out)
  have t3 := HK4.out.trans (t4.mono HZ4.out)
  have t2 := HK3.out.trans (t3.mono HZ3.out)
  have t1 := HK2.out.trans (t2.mono HZ2.out)
  refine ⟨w6.heap.size, 64, _, _, _, _, _, _, rfl, BK.new w6 _ _, ?_, ?_, ?_, ?_, ?_, ?_, HB6.out.trans (t6.mono HB6.out.size), Nat.le_of_lt HL6.out⟩
  · exact (HO1.out.lower HB0.out.size).below t1
  · exact (HO2.out.lower HB1.out.size).below t2
  · exact (HO3.out.lower HB2.out.size).below t3
  · exact (HO4.out.lower HB3.out.size).below t4
  · exact (HO5.out.lower HB4.out.size).below t5
  · exact (HO6.out.lower HB5.out.size).below t6
end Go.Proofs.Ytdommneciojiaaa
