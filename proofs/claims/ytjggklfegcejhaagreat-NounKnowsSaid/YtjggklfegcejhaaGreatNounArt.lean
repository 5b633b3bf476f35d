/- Contract of noun.article. -/
import Derived.Test.YtjggklfegcejhaaGreatNounKey
import Derived.Test.YtjggklfegcejhaaGreatDictDir
namespace Go.Proofs.YtjggklfegcejhaaGreat
open Go.RowKit Go.PlainAid
set_option linter.unusedVariables false
set_option linter.unusedSimpArgs false

theorem wds_lit (w : World) (l : List TxC) (T : TypeId) (h : ∀ s ∈ l, s.length ≤ maxLen) : Wds (w.alloc (.cells (l.map strC).toArray T)) (some ⟨w.heap.size, 0, none⟩) l :=
  ⟨h, fun _ => ⟨w.heap.size, 0, rfl, by rw [World.size_alloc]; omega, fun i hi => by
    have := (BK.new w (l.map strC) T).cell i
    rw [Nat.zero_add, this, List.getElem?_map, List.getElem?_eq_getElem hi]; rfl⟩⟩
theorem the_dir : ∀ k ∈ theL, dirK k = 0 := by decide +kernel
set_option maxRecDepth 100000 in
theorem articleC (s : TxC) (w : World) (hs : s.length ≤ maxLen) :
    Calls Tryz.prog 62 #[.string ⟨s.toArray⟩] w fun e w' => e = .returned (.bool (theL.contains (keyW s))) ∧ Below w.heap.size w w' := by
  have hs' : (⟨s.toArray⟩ : ByteArray).size ≤ maxLen := by show s.toArray.size ≤ _; simpa using hs
  have HD := Lib.hid (fun w => dictDir ⟨s.toArray⟩ w hs')
  have HKY := Lib.hid (fun w => nounKey s w hs)
  have HAM : Hid (∀ w' : World, Calls Tryz.prog 27 #[.string ⟨(keyW s).toArray⟩, .slice (some ⟨w'.heap.size, 0, none⟩) 3 3] (w'.alloc (.cells #[.string ⟨#[116, 104, 101]⟩, .string ⟨#[97]⟩, .string ⟨#[97, 110]⟩] 9)) fun e w'' => e = .returned (.bool (theL.contains (keyW s))) ∧ (w'.alloc (.cells #[.string ⟨#[116, 104, 101]⟩, .string ⟨#[97]⟩, .string ⟨#[97, 110]⟩] 9)) = w'') := Lib.hid (fun w' => amongC (keyW s) (some ⟨w'.heap.size, 0, none⟩) theL 3 _ (wds_lit w' theL 9 (by decide)) (by decide))
  have hz : dirK (keyW s) ≠ 0 → theL.contains (keyW s) = false := fun h => by
    rw [← Bool.not_eq_true, List.contains_iff_mem]
    exact fun hm => h (the_dir _ hm)
  have hdd : (⟨s.toArray⟩ : ByteArray).data.toList = s := by simp
  rw [hdd] at HD
  clear hs hs' hdd
  generalize theL.contains (keyW s) = r at *
  generalize keyW s = k at *
  by_cases h0 : dirK k = 0
  · clear hz
    rw [h0] at HD
    clear h0
    go_enter Tryz.func62, Tryz.ntmps62
    go_wp2_with fail
    refine (HD.out _).mono ?_
    rintro e w1 ⟨rfl, hb1⟩
    have HB1 := Lib.hid hb1
    clear hb1
    go_wp2_with fail
    refine (HKY.out _).mono ?_
    rintro e w2 ⟨rfl, hb2⟩
    have HB2 := Lib.hid (bl_then HB1.out hb2)
    clear hb2
    go_wp2_with fail
    refine (HAM.out _).mono ?_
    rintro e w3 ⟨rfl, rfl⟩
    have HB3 := Lib.hid (bl_a HB2.out (.cells #[.string ⟨#[116, 104, 101]⟩, .string ⟨#[97]⟩, .string ⟨#[97, 110]⟩] 9))
    go_wp2_with fail
    go_ret
    exact ⟨by simp, HB3.out⟩
  · have h1 : (dirK k == 0) = false := by simp [h0]
    have hr := hz h0
    subst hr
    clear hz h0
    go_enter Tryz.func62, Tryz.ntmps62
    go_wp2_with fail
    refine (HD.out _).mono ?_
    rintro e w1 ⟨rfl, hb1⟩
    have HB1 := Lib.hid hb1
    clear hb1
    go_wp2_with fail
    go_ret
    exact ⟨rfl, HB1.out⟩
end Go.Proofs.YtjggklfegcejhaaGreat
