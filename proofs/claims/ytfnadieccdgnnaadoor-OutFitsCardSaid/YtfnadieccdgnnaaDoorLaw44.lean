/- What is asked of chapter 44's examples: awake. The walks of the laws OutWraps and OutPages: they answer true. -/
import Derived.Test.YtfnadieccdgnnaaDoorOutWrap
import Derived.Test.YtfnadieccdgnnaaDoorOutPages2
namespace Go.Proofs.YtfnadieccdgnnaaDoor
open Go.RowKit Go.PlainAid
set_option linter.unusedVariables false
set_option linter.unusedSimpArgs false

theorem SL.litB (w : World) (cs : Array Value) (e : TypeId) (c n : Nat) (hn : cs.size = n) (hm : n ≤ maxLen) : SL (w.alloc (.cells cs e)) (.slice (some ⟨w.heap.size, 0, none⟩) n c) cs.toList := by
  subst hn
  refine ⟨by simpa using hm, .inr ⟨w.heap.size, 0, c, by simp, by rw [World.size_alloc]; omega, fun i h => ?_⟩⟩
  have h' : i < cs.size := by simpa using h
  rw [Nat.zero_add, World.cell?_alloc_mark]
  simp [h']
theorem one_al (w : World) (o : Obj) : Below w.heap.size w (w.alloc o) := (Below.refl _ _).alloc (Nat.le_refl _) _

theorem wrap_of {n : Nat} {l : List UInt8} {ls : List (List UInt8)} {ws : List (List (List UInt8))} (h1 : linesO l = ls) (h2 : ls.map wordsO = ws) : wrapO n l = ws.flatMap (parO n) := by
  unfold wrapO; rw [h1, ← h2, List.flatMap_map]
theorem ex_lamp : wrapO (wideN 8) [89, 111, 117, 32, 115, 101, 101, 32, 97, 32, 108, 97, 109, 112, 46] = [[89, 111, 117, 32, 115, 101, 101], [97, 32, 108, 97, 109, 112, 46]] := by
  rw [wrap_of (ls := [[89, 111, 117, 32, 115, 101, 101, 32, 97, 32, 108, 97, 109, 112, 46]]) (ws := [[[89, 111, 117], [115, 101, 101], [97], [108, 97, 109, 112, 46]]]) (by decide) (by decide), show wideN 8 = 8 from rfl]
  simp [parO, foldO, putO, chop_end]
theorem ex_abc : wrapO (wideN 4) [97, 98, 99, 100, 101, 102, 103, 104, 32, 105] = [[97, 98, 99, 100], [101, 102, 103, 104], [105]] := by
  rw [wrap_of (ls := [[97, 98, 99, 100, 101, 102, 103, 104, 32, 105]]) (ws := [[[97, 98, 99, 100, 101, 102, 103, 104], [105]]]) (by decide) (by decide), show wideN 4 = 4 from rfl]
  have : chopL 4 [97, 98, 99, 100, 101, 102, 103, 104] = ([[97, 98, 99, 100]], [101, 102, 103, 104]) := by
    rw [chop_more (by decide) (by decide), chop_end (by decide)]; rfl
  simp [parO, foldO, putO, chop_end, this]

def keeps (m : Int) (w : World) : Prop := w.cell? ⟨0, 0, none⟩ = some (.int .i64 m) ∧ 0 < w.heap.size
theorem keeps.below {m : Int} {w w' : World} {B : Nat} (h : keeps m w) (hB : 0 < B) (hb : Below B w w') : keeps m w' :=
  ⟨(hb.cell (p := ⟨0, 0, none⟩) hB).trans h.1, Nat.lt_of_lt_of_le h.2 hb.size⟩

theorem mkB_data (l : List UInt8) : (mkB l).data.toList = l := by unfold mkB; simp
theorem outWrapL (l : List UInt8) (width m : Int) (w : World) (hs : l.length ≤ 100000) (hk : keeps m w) :
    Calls Tryd.prog 9 #[.string (mkB l), .int .i64 width] w fun e w' => ∃ v, e = .returned v ∧ OwS w' w.heap.size v (wrapO (wideN width) l) ∧ Below w.heap.size w w' :=
  (outWrap (mkB l) width m w (by rw [mkB_size]; exact hs) hk.1 hk.2).mono fun e w' ⟨v, h1, h2, h3⟩ => ⟨v, h1, by rw [mkB_data] at h2; exact h2, h3⟩
set_option maxRecDepth 100000 in
set_option maxHeartbeats 4000000 in
theorem awake44 (m : Int) (w : World) (hk : keeps m w) : Calls Tryd.prog 7 #[] w fun e w' => e = .returned (.bool true) ∧ Below w.heap.size w w' := by
  have HK := Lib.hid hk
  have h0 := hk.2
  clear hk
  go_enter Tryd.func7, Tryd.ntmps7
  go_wp2_with fail
  refine (outWrapL [89, 111, 117, 32, 115, 101, 101, 32, 97, 32, 108, 97, 109, 112, 46] 8 m _ (by decide) HK.out).mono ?_
  rintro e w1 ⟨v1, rfl, h1, hb1⟩
  have H1 := Lib.hid (h1.sl (by rw [ex_lamp]; decide))
  rw [ex_lamp] at H1
  obtain ⟨a1, c1, hv1⟩ := H1.out.len
  subst hv1
  have Hb1 := Lib.hid hb1
  clear h1 hb1
  go_wp2_with fail
  refine (same14 _ _ [[89, 111, 117, 32, 115, 101, 101], [97, 32, 108, 97, 109, 112, 46]] _ (H1.out.below (one_al _ _)) (SL.litB w1 #[strV [89, 111, 117, 32, 115, 101, 101], strV [97, 32, 108, 97, 109, 112, 46]] _ _ 2 rfl (by decide))).mono ?_
  rintro e w2 ⟨rfl, n2, rfl⟩
  have Hb2 : Hid (Below w.heap.size w ((w1.alloc (.cells #[strV [89, 111, 117, 32, 115, 101, 101], strV [97, 32, 108, 97, 109, 112, 46]] 9)).drewN n2)) := Lib.hid (bl_drewN (bl_a Hb1.out _) _)
  have HK2 := Lib.hid (HK.out.below h0 Hb2.out)
  go_wp2_with fail
  refine (outWrapL [97, 98, 99, 100, 101, 102, 103, 104, 32, 105] 4 m _ (by decide) HK2.out).mono ?_
  rintro e w3 ⟨v3, rfl, h3, hb3⟩
  have H3 := Lib.hid (h3.sl (by rw [ex_abc]; decide))
  rw [ex_abc] at H3
  obtain ⟨a3, c3, hv3⟩ := H3.out.len
  subst hv3
  have Hb3 : Hid (Below w.heap.size w w3) := Lib.hid (Hb2.out.trans (hb3.mono Hb2.out.size))
  have HK3 := Lib.hid (HK.out.below h0 Hb3.out)
  clear h3 hb3
  go_wp2_with fail
  refine (same14 _ _ [[97, 98, 99, 100], [101, 102, 103, 104], [105]] _ (H3.out.below (one_al _ _)) (SL.litB w3 #[strV [97, 98, 99, 100], strV [101, 102, 103, 104], strV [105]] _ _ 3 rfl (by decide))).mono ?_
  rintro e w4 ⟨rfl, n4, rfl⟩
  have Hb4 : Hid (Below w.heap.size w ((w3.alloc (.cells #[strV [97, 98, 99, 100], strV [101, 102, 103, 104], strV [105]] 9)).drewN n4)) := Lib.hid (bl_drewN (bl_a Hb3.out _) _)
  have HK4 := Lib.hid (HK.out.below h0 Hb4.out)
  go_wp2_with fail
  refine (outWrapL [] 9 m _ (by decide) HK4.out).mono ?_
  rintro e w5 ⟨v5, rfl, h5, hb5⟩
  have H5 := Lib.hid (h5.sl (by rw [show wrapO (wideN 9) [] = [] by unfold wrapO; show (linesO []).flatMap _ = _; rw [lines_nil]; rfl]; decide))
  rw [show wrapO (wideN 9) [] = [] by unfold wrapO; show (linesO []).flatMap _ = _; rw [lines_nil]; rfl] at H5
  obtain ⟨a5, c5, hv5⟩ := H5.out.len
  subst hv5
  have Hb5 : Hid (Below w.heap.size w w5) := Lib.hid (Hb4.out.trans (hb5.mono Hb4.out.size))
  clear h5 hb5
  go_wp2_with fail
  refine (outCentre [97, 98] 7 _ (by decide)).mono ?_
  rintro e w6 ⟨rfl, hb6⟩
  rw [show centreO (wideN 7) [97, 98] = [32, 32, 97, 98] from rfl]
  have Hb6 : Hid (Below w.heap.size w w6) := Lib.hid (Hb5.out.trans (hb6.mono Hb5.out.size))
  clear hb6
  have ht : (mkB [32, 32, 97, 98]).toList = [32, 32, 97, 98] := mkB_toList _
  go_wp2_with fail
  refine (outPages _ [[97], [98], [99]] 2 _ (by decide) ⟨SL.litB w6 #[strV [97], strV [98], strV [99]] _ _ 3 rfl (by decide), _, _, rfl, Nat.le_refl _⟩ (by decide)).mono ?_
  rintro e w7 ⟨v7, rfl, h7, hb7⟩
  obtain ⟨a7, c7, hv7⟩ := h7.len
  have hl7 : (pagesO (highN 2) [[97], [98], [(99 : UInt8)]] : List (List (List UInt8))).length = 2 := by
    rw [show highN 2 = 2 from rfl, pages_more (by decide) (by decide), pages_last (by decide) (by decide) (by decide)]; rfl
  rw [hl7] at hv7
  subst hv7
  have Hb7 : Hid (Below w.heap.size w w7) := Lib.hid ((bl_a Hb6.out _).trans (hb7.mono (bl_a Hb6.out _).size))
  clear h7 hb7
  go_wp2_with fail
  go_ret
  exact ⟨rfl, Hb7.out⟩
end Go.Proofs.YtfnadieccdgnnaaDoor
