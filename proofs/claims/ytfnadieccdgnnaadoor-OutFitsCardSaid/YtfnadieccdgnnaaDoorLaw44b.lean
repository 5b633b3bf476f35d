/- The walks of the laws OutWraps and OutPages: they answer true. -/
import Derived.Test.YtfnadieccdgnnaaDoorLaw44
import Derived.Test.YtfnadieccdgnnaaDoorOutRef3
import Derived.Test.YtfnadieccdgnnaaDoorSame
namespace Go.Proofs.YtfnadieccdgnnaaDoor
open Go.RowKit Go.PlainAid
set_option linter.unusedVariables false
set_option linter.unusedSimpArgs false

theorem tot_par (n : Nat) : ∀ L : List (List UInt8), (L.flatMap fun x => parO n (wordsO x)).length ≤ 2 * totO L
  | [] => by simp
  | x :: t => by
    have h1 := par_len n x
    have h2 := tot_par n t
    rw [List.flatMap_cons, List.length_append, totO]; omega
theorem wrap_len (n : Nat) (l : List UInt8) : (wrapO n l).length ≤ 2 * l.length + 2 := by
  have h1 := tot_par n (linesO l)
  have h2 := tot_lines l
  unfold wrapO; omega

set_option maxRecDepth 100000 in
set_option maxHeartbeats 2000000 in
theorem walkWraps (s : ByteArray) (width m : Int) (w : World) (hk : keeps m w) (hs : s.size ≤ maxLen) (h1 : -9223372036854775808 ≤ width) (h2 : width ≤ 9223372036854775807) :
    Calls Tryd.prog 3 #[.string s, .int .i64 width] w fun e w' => e = .returned (.bool true) ∧ Below w.heap.size w w' := by
  unfold maxLen at hs
  have HK := Lib.hid hk
  have h0 := hk.2
  clear hk
  by_cases hl : 2000 < s.size
  · go_enter Tryd.func3, Tryd.ntmps3
    go_wp2_with (go_at_call 7; refine (awake44 m _ HK.out).mono ?_; rintro e w1 ⟨rfl, hb1⟩)
    go_ret
    exact ⟨rfl, hb1⟩
  · go_enter Tryd.func3, Tryd.ntmps3
    go_wp2_with fail
    refine (outWrap s width m _ (by omega) HK.out.1 h0).mono ?_
    rintro e w1 ⟨v1, rfl, o1, hb1⟩
    have hwl := wrap_len (wideN width) s.data.toList
    rw [by_len] at hwl
    have HRef := Lib.hid (fun w => refWrap44 s width w (by omega) h1 h2)
    obtain ⟨Y, hY⟩ : ∃ Y, wrapO (wideN width) s.data.toList = Y := ⟨_, rfl⟩
    rw [hY] at o1 hwl HRef
    have hYm : Y.length ≤ maxLen := by unfold maxLen; omega
    clear hY
    have H1 := Lib.hid (o1.sl hYm)
    obtain ⟨a1, c1, hv1⟩ := H1.out.len
    rw [List.length_map] at hv1
    subst hv1
    have Hb1 := Lib.hid hb1
    clear o1 hb1
    go_wp2_with fail
    refine (HRef.out _).mono ?_
    rintro e w2 ⟨v2, rfl, o2, hb2⟩
    have H2 := Lib.hid (o2.sl hYm)
    have Hb2 : Hid (Below w.heap.size w w2) := Lib.hid (Hb1.out.trans (hb2.mono Hb1.out.size))
    have H12 := Lib.hid (H1.out.below hb2)
    clear o2 hb2
    obtain ⟨a2, c2, hv2⟩ := H2.out.len
    rw [List.length_map] at hv2
    subst hv2
    clear hwl hYm
    go_wp2_with fail
    refine (same14 _ _ _ _ H12.out H2.out).mono ?_
    rintro e w3 ⟨rfl, n, rfl⟩
    go_wp2_with (go_at_call 7; refine (awake44 m _ (HK.out.below h0 (bl_drewN Hb2.out n))).mono ?_; rintro e w4 ⟨rfl, hb4⟩)
    go_ret
    exact ⟨rfl, (bl_drewN Hb2.out n).trans (hb4.mono (bl_drewN Hb2.out n).size)⟩

set_option maxRecDepth 100000 in
set_option maxHeartbeats 4000000 in
theorem walkPages (v0 : Value) (L : List (List UInt8)) (height : Int) (s : ByteArray) (width m : Int) (w : World) (hk : keeps m w) (hS : SLC w v0 (L.map strV)) (hs : s.size ≤ maxLen) (h2 : height ≤ 9223372036854775807) :
    Calls Tryd.prog 4 #[v0, .int .i64 height, .string s, .int .i64 width] w fun e w' => e = .returned (.bool true) ∧ Below w.heap.size w w' := by
  have hLm := hS.1.1
  rw [List.length_map] at hLm
  unfold maxLen at hs hLm
  have HK := Lib.hid hk
  have h0 := hk.2
  have HS := Lib.hid hS
  obtain ⟨a0, c0, hv0, hc0⟩ := hS.2
  rw [List.length_map] at hv0 hc0
  subst hv0
  obtain ⟨sl, hsl⟩ : ∃ sl, s.data.toList = sl := ⟨_, rfl⟩
  have hsb : s = mkB sl := by rw [← hsl]; exact (mkB_of s).symm
  subst hsb
  have hss := mkB_size sl
  rw [hss] at hs
  clear hk hS hsl
  by_cases hl : 200 < L.length
  · go_enter Tryd.func4, Tryd.ntmps4
    go_wp2_with (go_at_call 7; refine (awake44 m _ HK.out).mono ?_; rintro e w1 ⟨rfl, hb1⟩)
    go_ret
    exact ⟨rfl, hb1⟩
  · by_cases hl2 : 400 < sl.length
    · go_enter Tryd.func4, Tryd.ntmps4
      go_wp2_with (go_at_call 7; refine (awake44 m _ HK.out).mono ?_; rintro e w1 ⟨rfl, hb1⟩)
      go_ret
      exact ⟨rfl, hb1⟩
    · go_enter Tryd.func4, Tryd.ntmps4
      go_wp2_with fail
      refine (outPages _ L height _ (by omega) HS.out h2).mono ?_
      rintro e w1 ⟨v1, rfl, o1, hb1⟩
      obtain ⟨a1, c1, hv1⟩ := o1.len
      subst hv1
      go_wp2_with fail
      refine (refPages _ L height _ (by omega) (HS.out.below hb1) h2).mono ?_
      rintro e w2 ⟨v2, rfl, o2, hb2⟩
      obtain ⟨a2, c2, hv2⟩ := o2.len
      subst hv2
      have H1 := Lib.hid (o1.below hb2)
      have H2 := Lib.hid o2
      have Hb2 : Hid (Below w.heap.size w w2) := Lib.hid (hb1.trans (hb2.mono hb1.size))
      clear o1 o2 hb1 hb2
      have hpl := pages_len (highN height) _ L (Nat.le_refl _)
      obtain ⟨P, hP⟩ : ∃ P, pagesO (highN height) L = P := ⟨_, rfl⟩
      rw [hP] at H1 H2 hpl
      rw [hP]
      clear hP
      have HC1 := Lib.hid (fun w => outCentre sl width w (by omega))
      have HC2 := Lib.hid (fun w => refCentre sl width w (by omega))
      go_wp2_with (first
        | (go_at_call 13; refine (HC1.out _).mono ?_; rintro e w3 ⟨rfl, hb3⟩)
        | (go_at_call 14; refine (HC2.out _).mono ?_; rintro e w4 ⟨rfl, rfl⟩))
      have Hb3 : Hid (Below w.heap.size w w3) := Lib.hid (Hb2.out.trans (hb3.mono Hb2.out.size))
      have H13 := Lib.hid (H1.out.below hb3)
      have H23 := Lib.hid (H2.out.below hb3)
      clear hb3
      go_loopw [11] (fun i wr => ∃ k n : Nat, k ≤ P.length ∧ i = .int .i64 k ∧ wr = w3.drewN n) (fun i _ => P.length - (intOf i).toNat)
      case atStart => exact ⟨0, 0, Nat.zero_le _, rfl, rfl⟩
      case round =>
        obtain ⟨k, n, hk, rfl, rfl⟩ := hrel
        by_cases hlt : k < P.length
        · obtain ⟨vs, g1, g2, g3⟩ := H13.out
          obtain ⟨us, f1, f2, f3⟩ := H23.out
          rcases g1.2 with ⟨hl, _⟩ | ⟨b, off, c, ha, hlt1, hc1⟩
          · rw [hl] at g2; simp at g2; omega
          rcases f1.2 with ⟨hl, _⟩ | ⟨b', off', c', ha', hlt2, hc2⟩
          · rw [hl] at f2; simp at f2; omega
          have ea : a1 = some ⟨b, off, none⟩ ∧ c1 = c := by simp at ha; exact ⟨ha.1, ha.2.2⟩
          have ea' : a2 = some ⟨b', off', none⟩ ∧ c2 = c' := by simp at ha'; exact ⟨ha'.1, ha'.2.2⟩
          obtain ⟨rfl, rfl⟩ := ea
          obtain ⟨rfl, rfl⟩ := ea'
          have x1 := hc1 k (by omega)
          have x2 := hc2 k (by omega)
          have s1 := g3 k (by omega) hlt
          have s2 := f3 k (by omega) hlt
          generalize vs[k]'(by omega) = vk at x1 s1
          generalize us[k]'(by omega) = uk at x2 s2
          generalize P[k] = pk at s1 s2
          obtain ⟨ak, ck, hvk⟩ := s1.len
          obtain ⟨ak', ck', huk⟩ := s2.len
          rw [List.length_map] at hvk huk
          subst hvk
          subst huk
          have S1 := Lib.hid s1
          have S2 := Lib.hid s2
          clear s1 s2 g1 f1 g3 f3 hc1 hc2 ha ha' g2 f2
          go_wp2_with fail
          go_quiet ((go_at_call 8; exact quiet_add (same14 _ _ _ _ (S1.out.below (bl_drewN (Below.refl _ _) _)) (S2.out.below (bl_drewN (Below.refl _ _) _)))))
          go_wp2
          go_roundw
          case rel => exact ⟨k + 1, _, by omega, by go_num, rfl⟩
          case measure => simp [intOf]; omega
        · have Hbn : Hid (Below w.heap.size w (w3.drewN n)) := Lib.hid (bl_drewN Hb3.out n)
          go_wp2_with (go_at_call 7; refine (awake44 m _ (HK.out.below h0 Hbn.out)).mono ?_; rintro e w4 ⟨rfl, hb4⟩)
          go_ret
          exact ⟨rfl, Hbn.out.trans (hb4.mono Hbn.out.size)⟩
end Go.Proofs.YtfnadieccdgnnaaDoor
