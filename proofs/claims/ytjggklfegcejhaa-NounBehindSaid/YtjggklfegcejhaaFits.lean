/- Contract of clewref19.Fits: what true says of tables. -/
import Derived.Test.YtjggklfegcejhaaFitsH
import Derived.Test.YtjggklfegcejhaaFitsT
import Derived.Test.YtjggklfegcejhaaFitsR
namespace Go.Proofs.Ytjggklfegcejhaa
open Go.RowKit Go.PlainAid
set_option linter.unusedVariables false
set_option linter.unusedSimpArgs false

/-- Tables that may be. -/
structure FitsOk (t : TbC) : Prop where
  he : HeadOk t
  th : ThingsOk t
  ru : RulesOk t
theorem ThingsOk.words {t : TbC} (h : ThingsOk t) : ∀ y ∈ t.th, ((∀ s ∈ y.wd, WordOk s) ∧ y.wd.length ≤ 8) ∧ ((∀ s ∈ y.ad, WordOk s) ∧ y.ad.length ≤ 8) := by
  intro y hy
  obtain ⟨j, hj, rfl⟩ := List.getElem_of_mem hy
  rcases Nat.eq_zero_or_pos j with rfl | h1
  · have h2 := (h.none hj).2.2.2.2.2.2.1
    have h3 : (t.th[0]).wd = [] := List.length_eq_zero_iff.1 (by omega)
    have h4 : (t.th[0]).ad = [] := List.length_eq_zero_iff.1 (by omega)
    rw [h3, h4]
    exact ⟨⟨(fun s hs => by cases hs), by decide⟩, ⟨(fun s hs => by cases hs), by decide⟩⟩
  · have h2 := h.at_ j hj h1
    exact ⟨⟨h2.wd.1, by have := h2.wd.2; omega⟩, ⟨h2.ad.1, by have := h2.ad.2; omega⟩⟩
set_option maxRecDepth 100000 in
set_option maxHeartbeats 4000000 in
theorem refFits (x : TAd) (t : TbC) (w : World) (ht : TabIs w x t) :
    Calls Try.prog 5 #[tabV x t] w (OneW (FitsOk t) w) := by
  have HT := Lib.hid ht
  have HB0 := Lib.hid (bl_tab w x t)
  have HK0 : Hid (BK (tabW w x t) w.heap.size (tabC x t) 28) := Lib.hid (BK.new w (tabC x t) 28)
  obtain ⟨W0, hW0⟩ : ∃ W0, tabW w x t = W0 := ⟨_, rfl⟩
  rw [hW0] at HB0 HK0
  have H1 := Lib.hid (fun w' (hb : Below w.heap.size w w') => refHead x t w' (HT.out.below hb))
  have H2 := Lib.hid (fun w' (hb : Below w.heap.size w w') => refThings x t w' (HT.out.below hb))
  have H3 := Lib.hid (fun w' (hb : Below w.heap.size w w') => refRules x t w' (HT.out.below hb))
  unfold tabW tabC at hW0
  unfold tabV tabC at *
  clear ht
  have kt0 := HK0.out.cell 0
  have kt1 := HK0.out.cell 1
  have kt2 := HK0.out.cell 2
  have kt3 := HK0.out.cell 3
  have kt4 := HK0.out.cell 4
  have kt5 := HK0.out.cell 5
  have kt6 := HK0.out.cell 6
  have kt7 := HK0.out.cell 7
  have kt8 := HK0.out.cell 8
  have kt9 := HK0.out.cell 9
  have kt10 := HK0.out.cell 10
  have kt11 := HK0.out.cell 11
  have kt12 := HK0.out.cell 12
  have kt13 := HK0.out.cell 13
  have kt14 := HK0.out.cell 14
  simp only [tabC, List.getElem?_cons_zero, List.getElem?_cons_succ] at kt0 kt1 kt2 kt3 kt4 kt5 kt6 kt7 kt8 kt9 kt10 kt11 kt12 kt13 kt14
  go_enter Try.func5, Try.ntmps5
  go_wp2_with fail
  clear hW0
  refine (H1.out _ HB0.out).mono ?_
  rintro e w1 ⟨b1, rfl, h1, hb1⟩
  have HB1 := Lib.hid (bl_then HB0.out hb1)
  have HK1 := Lib.hid (HK0.out.below hb1)
  have HP1 := Lib.hid h1
  clear hb1 h1
  clear kt0 kt1 kt2 kt3 kt4 kt5 kt6 kt7 kt8 kt9 kt10 kt11 kt12 kt13 kt14
  cases b1 with
  | false =>
    go_wp2
    go_ret
    exact OneW.f HB1.out
  | true =>
    have kt0 := HK1.out.cell 0
    have kt1 := HK1.out.cell 1
    have kt2 := HK1.out.cell 2
    have kt3 := HK1.out.cell 3
    have kt4 := HK1.out.cell 4
    have kt5 := HK1.out.cell 5
    have kt6 := HK1.out.cell 6
    have kt7 := HK1.out.cell 7
    have kt8 := HK1.out.cell 8
    have kt9 := HK1.out.cell 9
    have kt10 := HK1.out.cell 10
    have kt11 := HK1.out.cell 11
    have kt12 := HK1.out.cell 12
    have kt13 := HK1.out.cell 13
    have kt14 := HK1.out.cell 14
    simp only [tabC, List.getElem?_cons_zero, List.getElem?_cons_succ] at kt0 kt1 kt2 kt3 kt4 kt5 kt6 kt7 kt8 kt9 kt10 kt11 kt12 kt13 kt14
    go_wp2_with fail
    refine (H2.out _ HB1.out).mono ?_
    rintro e w2 ⟨b2, rfl, h2, hb2⟩
    have HB2 := Lib.hid (bl_then HB1.out hb2)
    have HK2 := Lib.hid (HK1.out.below hb2)
    have HP2 := Lib.hid h2
    clear hb2 h2
    clear kt0 kt1 kt2 kt3 kt4 kt5 kt6 kt7 kt8 kt9 kt10 kt11 kt12 kt13 kt14
    cases b2 with
    | false =>
      go_wp2
      go_ret
      exact OneW.f HB2.out
    | true =>
      have kt0 := HK2.out.cell 0
      have kt1 := HK2.out.cell 1
      have kt2 := HK2.out.cell 2
      have kt3 := HK2.out.cell 3
      have kt4 := HK2.out.cell 4
      have kt5 := HK2.out.cell 5
      have kt6 := HK2.out.cell 6
      have kt7 := HK2.out.cell 7
      have kt8 := HK2.out.cell 8
      have kt9 := HK2.out.cell 9
      have kt10 := HK2.out.cell 10
      have kt11 := HK2.out.cell 11
      have kt12 := HK2.out.cell 12
      have kt13 := HK2.out.cell 13
      have kt14 := HK2.out.cell 14
      simp only [tabC, List.getElem?_cons_zero, List.getElem?_cons_succ] at kt0 kt1 kt2 kt3 kt4 kt5 kt6 kt7 kt8 kt9 kt10 kt11 kt12 kt13 kt14
      go_wp2_with fail
      refine (H3.out _ HB2.out).mono ?_
      rintro e w3 ⟨b3, rfl, h3, hb3⟩
      have HB3 := Lib.hid (bl_then HB2.out hb3)
      have HP3 := Lib.hid h3
      clear hb3 h3
      clear kt0 kt1 kt2 kt3 kt4 kt5 kt6 kt7 kt8 kt9 kt10 kt11 kt12 kt13 kt14
      cases b3 with
      | false =>
        go_wp2
        go_ret
        exact OneW.f HB3.out
      | true =>
        go_wp2
        go_ret
        exact OneW.t HB3.out ⟨HP1.out (by trivial), HP2.out (by trivial), HP3.out (by trivial)⟩
end Go.Proofs.Ytjggklfegcejhaa
