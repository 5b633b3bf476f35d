/- Contracts of clewlaw35.bare and clewlaw35.awake. -/
import Derived.Test.YtlkdphbgephfiaaDictMake
import Derived.Test.YtlkdphbgephfiaaDictRefMake
import Derived.Test.YtlkdphbgephfiaaDictDir2
namespace Go.Proofs.Ytlkdphbgephfiaa
open Go.RowKit Go.PlainAid
set_option linter.unusedVariables false
set_option linter.unusedSimpArgs false

/-- Words added one after another. -/
def foldA (ad : List Ad) : List EnC := ad.foldl (fun D a => withGo a.2 (a.1 : Int) D false) []
theorem foldA_go : ∀ (ad pre : List Ad) (D : List EnC), DictIs pre D → DictIs (pre ++ ad) (ad.foldl (fun D a => withGo a.2 (a.1 : Int) D false) D)
  | [], pre, D, h => by rw [List.append_nil]; exact h
  | a :: t, pre, D, h => by
    have h1 := foldA_go t (pre ++ [a]) _ (with_is h a.1 a.2)
    rw [List.append_assoc] at h1
    exact h1
theorem foldA_is (ad : List Ad) : DictIs ad (foldA ad) := foldA_go ad [] [] DictIs.nil
theorem dict_fold {ad : List Ad} {D : List EnC} (h : DictIs ad D) : D = foldA ad := dict_eq h (foldA_is ad) (List.Perm.refl _)
def noTh (tx pa : Int) (rm : Bool) : ThC := ⟨0, tx, pa, 0, rm, [], [], [], []⟩
/-- Tables without words. -/
def bareT : TbC := ⟨0, 0, 0, 0, [[120]], 4, [], [], [noTh (-1) 0 false, noTh (-1) 2 false, noTh (-1) 0 true], [], [], [], [], [], []⟩
def bareX (k : Nat) : TAd := ⟨some ⟨k, 0, none⟩, none, none, some ⟨k + 1, 0, none⟩, none, none, none, none, none, none, 1, 0, 0, 3, 0, 0, 0, 0, 0, 0⟩
theorem bare_few : TabFew bareT where
  th := by decide
  wd := by intro x hx; simp [bareT, noTh] at hx; rcases hx with rfl | rfl | rfl <;> decide
  ac := by decide
  ln := by intro a ha; cases ha
  sl := by intro a ha; cases ha
  sw := by intro a ha; cases ha
theorem reads_nilq {α : Type} {c : Cd α} (w : World) : Reads c.sq w nilV [] := ⟨reads_nilE w, Nat.zero_le _⟩
theorem th_lit (w : World) (tx pa : Int) (rm : Bool) (h1 : I64 tx) (h2 : I64 pa) : ThIs w nilV nilV nilV nilV (noTh tx pa rm) :=
  ⟨reads_nilq w, reads_nilq w, reads_nilq w, reads_nilq w, rfl, h1, h2, rfl⟩
theorem bare_is {w : World} {k : Nat} (h1 : BK w k [.string ⟨#[120]⟩] 9) (h2 : BK w (k + 1) (thRow (noTh (-1) 0 false) nilV nilV nilV nilV ++ (thRow (noTh (-1) 2 false) nilV nilV nilV nilV ++ thRow (noTh (-1) 0 true) nilV nilV nilV nilV)) 43) : TabIs w (bareX k) bareT := by
  refine ⟨?_, reads_nilq w, reads_nilq w, ?_, reads_nilq w, reads_nilq w, reads_nilq w, reads_nilq w, reads_nilq w, reads_nilq w, rfl, rfl, rfl, rfl, rfl⟩
  · refine ⟨⟨_, [[.string ⟨#[120]⟩]], rfl, ⟨⟨by decide, (by intro r hr; simp at hr; subst hr; rfl), .inr ⟨k, 0, 1, rfl, h1.lt, fun i j hi hj => ?_⟩⟩, some ⟨k, 0, none⟩, 1, rfl, by decide⟩, rfl, fun i a b => ?_⟩, by decide⟩
    · have hi0 : i = 0 := by simpa using hi
      have hj0 : j = 0 := by have : j < 1 := hj; omega
      subst hi0; subst hj0
      exact h1.cell 0
    · have hi0 : i = 0 := by simpa using a
      subst hi0
      exact ⟨rfl, by show 1 ≤ maxLen; decide⟩
  · refine ⟨⟨_, [thRow (noTh (-1) 0 false) nilV nilV nilV nilV, thRow (noTh (-1) 2 false) nilV nilV nilV nilV, thRow (noTh (-1) 0 true) nilV nilV nilV nilV], rfl, ⟨⟨by decide, (by intro r hr; simp at hr; rcases hr with rfl | rfl | rfl <;> rfl), .inr ⟨k + 1, 0, 3, rfl, h2.lt, fun i j hi hj => ?_⟩⟩, some ⟨k + 1, 0, none⟩, 3, rfl, by decide⟩, rfl, fun i a b => ?_⟩, by decide⟩
    · have hi3 : i < 3 := by simpa using hi
      have hj9 : j < 9 := hj
      show w.cell? ⟨k + 1, 0 + i * 9 + j, none⟩ = _
      rw [h2.cell, Nat.zero_add]
      have hd : (List.range 3).all (fun i => (List.range 9).all fun j => True) = true := by decide
      match i, hi3 with
      | 0, _ => match j, hj9 with
        | 0, _ | 1, _ | 2, _ | 3, _ | 4, _ | 5, _ | 6, _ | 7, _ | 8, _ => rfl
      | 1, _ => match j, hj9 with
        | 0, _ | 1, _ | 2, _ | 3, _ | 4, _ | 5, _ | 6, _ | 7, _ | 8, _ => rfl
      | 2, _ => match j, hj9 with
        | 0, _ | 1, _ | 2, _ | 3, _ | 4, _ | 5, _ | 6, _ | 7, _ | 8, _ => rfl
    · have hi3 : i < 3 := by simpa using a
      match i, hi3 with
      | 0, _ => exact ⟨_, _, _, _, rfl, th_lit w (-1) 0 false rfl rfl⟩
      | 1, _ => exact ⟨_, _, _, _, rfl, th_lit w (-1) 2 false rfl rfl⟩
      | 2, _ => exact ⟨_, _, _, _, rfl, th_lit w (-1) 0 true rfl rfl⟩
set_option maxRecDepth 100000 in
set_option maxHeartbeats 4000000 in
theorem bare35 (w : World) : Calls Try.prog 20 #[] w fun e w' => ∃ k, e = .returned (tabV (bareX k) bareT) ∧ TabIs w' (bareX k) bareT ∧ Below w.heap.size w w' := by
  go_enter Try.func20, Try.ntmps20
  go_wp2
  refine bodyPost_ret (v := tabV (bareX (w.heap.size + 1)) bareT) ?_ rfl ⟨w.heap.size + 1, rfl, ?_, bl_a (bl_a (bl_a (Below.refl _ _) _) _) _⟩
  · simp [results, Try.results20, go_sem]
    rfl
  · have h1 : ∀ A : Obj, BK ((w.alloc A).alloc (.cells #[.string ⟨#[120]⟩] 9)) (w.heap.size + 1) [.string ⟨#[120]⟩] 9 := fun A => by
      have := BK.new (w.alloc A) [.string ⟨#[120]⟩] 9
      rw [World.size_alloc] at this; exact this
    have h2 : ∀ (A B : Obj) (cs : List Value), BK (((w.alloc A).alloc B).alloc (.cells cs.toArray 43)) (w.heap.size + 1 + 1) cs 43 := fun A B cs => by
      have := BK.new ((w.alloc A).alloc B) cs 43
      rw [World.size_alloc, World.size_alloc] at this; exact this
    exact bare_is ((h1 _).alloc _) (h2 _ _ _)
/-- The bare dictionary. -/
def bareD : List EnC := foldA (adsP bareT)
theorem bareD_is : DictIs (adsP bareT) bareD := foldA_is _
theorem bareD_len : bareD.length = 32 := by decide +kernel
theorem bareD_find : findE bareD (keyW [69, 86, 69, 82, 89, 84, 72, 73, 78, 71]) = 9 := by decide +kernel
theorem bareD_the : bitsE bareD (keyW [116, 104, 101]) = 32 := by decide +kernel
theorem dir_ne : dirK (keyW [78, 69]) = 5 := by decide +kernel
theorem dir_in : dirK (keyW [105, 110]) = 11 := by decide +kernel
theorem dir_lamp : dirK (keyW [108, 97, 109, 112]) = 0 := by decide +kernel
theorem bareD_at : ∀ h : 9 < bareD.length, (bareD[9]).wd = [101, 118, 101, 114, 121, 116, 104, 105, 110] := by decide +kernel
set_option maxRecDepth 100000 in
set_option maxHeartbeats 8000000 in
theorem awake35 (w : World) : Calls Try.prog 8 #[] w fun e w' => e = .returned (.bool true) ∧ Below w.heap.size w w' := by
  have HNE : Hid (∀ w, Calls Try.prog 17 #[.string ⟨#[78, 69]⟩] w fun e w' => e = .returned (.int .i64 5) ∧ Below w.heap.size w w') := Lib.hid (fun w => by have := dictDir ⟨#[78, 69]⟩ w (by decide); rwa [show dirK (keyW (⟨#[78, 69]⟩ : ByteArray).data.toList) = 5 from dir_ne] at this)
  have HIN : Hid (∀ w, Calls Try.prog 17 #[.string ⟨#[105, 110]⟩] w fun e w' => e = .returned (.int .i64 11) ∧ Below w.heap.size w w') := Lib.hid (fun w => by have := dictDir ⟨#[105, 110]⟩ w (by decide); rwa [show dirK (keyW (⟨#[105, 110]⟩ : ByteArray).data.toList) = 11 from dir_in] at this)
  have HLA : Hid (∀ w, Calls Try.prog 17 #[.string ⟨#[108, 97, 109, 112]⟩] w fun e w' => e = .returned (.int .i64 0) ∧ Below w.heap.size w w') := Lib.hid (fun w => by have := dictDir ⟨#[108, 97, 109, 112]⟩ w (by decide); rwa [show dirK (keyW (⟨#[108, 97, 109, 112]⟩ : ByteArray).data.toList) = 0 from dir_lamp] at this)
  go_enter Try.func8, Try.ntmps8
  go_wp2_with fail
  refine (bare35 _).mono ?_
  rintro e w1 ⟨k, rfl, ht, hb1⟩
  have HT := Lib.hid ht
  have HB1 := Lib.hid hb1
  clear ht hb1
  go_wp2_with fail
  refine (dictMake _ _ _ HT.out bare_few).mono ?_
  rintro e w2 ⟨v, D, rfl, hd, hv, hb2⟩
  obtain rfl : D = bareD := dict_eq hd bareD_is (List.Perm.refl _)
  have HV := Lib.hid hv
  have HB2 := Lib.hid (bl_then HB1.out hb2)
  obtain ⟨a0, c0, hv0, hc0, hm0⟩ := hv.len
  obtain ⟨b, off, cap, hvb, hcap, hblt, hcell⟩ := en_open hv (by rw [bareD_len]; decide)
  have hac : a0 = some ⟨b, off, none⟩ := by rw [hv0] at hvb; simp at hvb; exact hvb.1
  have h9 : 9 < bareD.length := by rw [bareD_len]; decide
  have f0 := (hcell 9 h9).1
  rw [bareD_at h9] at f0
  rw [bareD_len] at hv0
  subst hac
  subst hv0
  have HF := Lib.hid (fun w v h => dictFind v bareD ⟨#[69, 86, 69, 82, 89, 84, 72, 73, 78, 71]⟩ w h bareD_is.1 (by rw [bareD_len]; decide) (by decide))
  rw [show findE bareD (keyW (⟨#[69, 86, 69, 82, 89, 84, 72, 73, 78, 71]⟩ : ByteArray).data.toList) = 9 from bareD_find] at HF
  have HT2 := Lib.hid (fun w v h => dictBits v bareD ⟨#[116, 104, 101]⟩ w h bareD_is.1 (by rw [bareD_len]; decide) (by decide))
  rw [show bitsE bareD (keyW (⟨#[116, 104, 101]⟩ : ByteArray).data.toList) = 32 from bareD_the] at HT2
  clear hd hv hb2 hvb hcell hc0 hm0 hcap h9 HB1 HT
  go_wp2_with fail
  refine (HF.out _ _ HV.out).mono ?_
  rintro e w3 ⟨rfl, hb3⟩
  have e0 := (hb3.cell (p := ⟨b, off + 9 * 2, none⟩) hblt).trans f0
  have HB3 := Lib.hid (bl_then HB2.out hb3)
  have HV3 := Lib.hid (HV.out.below hb3)
  clear hb3 f0 HV HB2 HF
  go_wp2_with (first
    | (go_at_call 15; refine (HT2.out _ _ HV3.out).mono ?_; rintro e w4 ⟨rfl, hb4⟩; have HB4 := Lib.hid (bl_then HB3.out hb4); clear hb4)
    | (go_at_call 17; have _tok := HB6.out; with_reducible refine (HLA.out _).mono ?_; rintro e w7 ⟨rfl, hb7⟩; have HB7 := Lib.hid (bl_then HB6.out hb7); clear hb7)
    | (go_at_call 17; have _tok := HB5.out; with_reducible refine (HIN.out _).mono ?_; rintro e w6 ⟨rfl, hb6⟩; have HB6 := Lib.hid (bl_then HB5.out hb6); clear hb6)
    | (go_at_call 17; with_reducible refine (HNE.out _).mono ?_; rintro e w5 ⟨rfl, hb5⟩; have HB5 := Lib.hid (bl_then HB4.out hb5); clear hb5))
  go_ret
  exact ⟨rfl, HB7.out⟩
end Go.Proofs.Ytlkdphbgephfiaa
