/- The walk of the law CmdJoins: it answers true. -/
import Derived.Test.YtgheiadnjnnjfaaJoinsPlain
import Derived.Test.YtgheiadnjnnjfaaAppend
namespace Go.Proofs.Ytgheiadnjnnjfaa
open Go.RowKit Go.PlainAid

theorem LL.len {w : World} {v : Value} {ls : List (List ByteArray)} (h : LL w v ls) : ∃ a c, v = .slice a ls.length c := by
  obtain ⟨vs, h1, h2, _⟩ := h
  rw [← h2]; exact h1.len
theorem SL.one {w : World} {v : Value} {xs : List Value} (h : SL w v xs) : v.oneCell' = true := by
  obtain ⟨a, c, rfl⟩ := h.len; rfl
/-- A list of lists behind another. -/
theorem LL.join {w : World} {v : Value} {xs ys : List (List ByteArray)} {us vs : List Value} (h : SL w v (us ++ vs)) (h1 : us.length = xs.length) (h2 : vs.length = ys.length)
    (h3 : ∀ i (h : i < us.length) (h' : i < xs.length), SL w us[i] (xs[i].map Value.string)) (h4 : ∀ i (h : i < vs.length) (h' : i < ys.length), SL w vs[i] (ys[i].map Value.string)) : LL w v (xs ++ ys) := by
  refine ⟨us ++ vs, h, by simp [h1, h2], fun i a b => ?_⟩
  by_cases hi : i < us.length
  · rw [List.getElem_append_left hi, List.getElem_append_left (by omega)]
    exact h3 i hi (by omega)
  · have a' : i - us.length < vs.length := by simp at a; omega
    have e : i - us.length = i - xs.length := by omega
    rw [List.getElem_append_right (by omega), List.getElem_append_right (by omega)]
    have := h4 (i - us.length) a' (by omega)
    simpa only [e] using this

set_option maxHeartbeats 400000 in
theorem walkJoins_in (a b : ByteArray) (w : World) (ha : a.size ≤ 120) (hb : b.size ≤ 120) :
    Calls Try.prog 5 #[.string a, .string b] w fun e w' => e = .returned (.bool true) ∧ Below w.heap.size w w' := by
  obtain ⟨i1, hj, hy0, hy1, hy2⟩ := info_parts Try.infoL
  have HLOW := Lib.hid (split_low a)
  have HS := Lib.hid (lowS_size a)
  have HAB : Hid ((a ++ (⟨#[46]⟩ : ByteArray) ++ b).size ≤ 1000000) := Lib.hid (by have h := join_size a b; have h2 : (a ++ (⟨#[46]⟩ : ByteArray) ++ b).size = a.size + 1 + b.size := h; omega)
  go_enter Try.func5, Try.ntmps5
  go_wp2_with fail
  refine (cmdSplit a _ (by omega)).mono ?_
  rintro e w1 ⟨v1, rfl, h1, hb1⟩
  obtain ⟨p1, c1, hv1⟩ := h1.len
  subst hv1
  have H1 := Lib.hid h1
  clear h1
  go_wp2_with fail
  refine (cmdSplit b _ (by omega)).mono ?_
  rintro e w2 ⟨v2, rfl, h2, hb2⟩
  obtain ⟨p2, c2, hv2⟩ := h2.len
  subst hv2
  have H2 := Lib.hid h2
  clear h2
  go_wp2_with fail
  with_reducible refine Calls.mono (cmdSplit _ _ ?_) ?_
  exact HAB.out
  rintro e w3 ⟨v3, rfl, h3, hb3⟩
  have H3 := Lib.hid h3
  clear h3
  go_wp2_with fail
  refine (refLower a _ (by unfold maxLen; omega)).mono ?_
  rintro e w4 ⟨rfl, hb4⟩
  go_wp2_with fail
  refine (cmdSplit (lowS a) _ (by have := HS.out; omega)).mono ?_
  rintro e w5 ⟨v5, rfl, h5, hb5⟩
  rw [HLOW.out.1] at h5
  rw [HLOW.out.2]
  have H5 := Lib.hid h5
  have hB1 : Hid (Below w1.heap.size w1 w5) := Lib.hid (((hb2.trans (hb3.mono hb2.size)).trans (hb4.mono (Nat.le_trans hb2.size hb3.size))).trans (hb5.mono (Nat.le_trans (Nat.le_trans hb2.size hb3.size) hb4.size)))
  have hB2 : Hid (Below w2.heap.size w2 w5) := Lib.hid ((hb3.trans (hb4.mono hb3.size)).trans (hb5.mono (Nat.le_trans hb3.size hb4.size)))
  have hB3 : Hid (Below w3.heap.size w3 w5) := Lib.hid (hb4.trans (hb5.mono hb4.size))
  have hB0 : Hid (Below w.heap.size w w5) := Lib.hid (hb1.trans (hB1.out.mono hb1.size))
  have hz0 := hB0.out.size
  clear h5 hb1 hb2 hb3 hb4 hb5
  by_cases hg : splitE a = 0 ∧ splitE b = 0 ∧ (splitL a).length + (splitL b).length ≤ 32
  · obtain ⟨g1, g2, g3⟩ := hg
    have HG := join_good a b ha hb g1 g2 g3
    have gz : splitE (a ++ ⟨#[46]⟩ ++ b) = 0 := HG.1
    have HL := Lib.hid HG.2
    clear HG
    obtain ⟨us, hu1, hu2, hu3⟩ := H1.out.below hB1.out
    obtain ⟨vs, hv1, hv2, hv3⟩ := H2.out.below hB2.out
    have HU := Lib.hid hu1
    have HV := Lib.hid hv1
    have HU3 := Lib.hid hu3
    have HV3 := Lib.hid hv3
    have ul := Lib.hid hu2
    have vl := Lib.hid hv2
    have ub : us.length ≤ 32 := by omega
    have vb : vs.length ≤ 32 := by omega
    have ab1 : 0 + us.length ≤ maxLen ∧ (0 + us.length) * 24 ≤ 140737488355328 := by unfold maxLen; omega
    have ab2 : us.length + vs.length ≤ maxLen ∧ (us.length + vs.length) * 24 ≤ 140737488355328 := by unfold maxLen; omega
    clear hu1 hv1 hu2 hv2 hu3 hv3 ub vb
    have hone1 : Hid (∀ u ∈ us, u.oneCell' = true) := Lib.hid (fun u hu => by
      obtain ⟨i, hi, rfl⟩ := List.getElem_of_mem hu
      exact (HU3.out i hi (by have := ul.out; omega)).one)
    have hone2 : Hid (∀ u ∈ vs, u.oneCell' = true) := Lib.hid (fun u hu => by
      obtain ⟨i, hi, rfl⟩ := List.getElem_of_mem hu
      exact (HV3.out i hi (by have := vl.out; omega)).one)
    go_wp2_with fail
    refine (lists_true _ _ (splitL a) _ H5.out (H1.out.below hB1.out)).mono ?_
    rintro e w6 ⟨rfl, n, rfl⟩
    have HO6 : Hid (((w5.drewN n).alloc (.cells #[] 29)).ownsRow w5.heap.size 29 1 (.slice (some ⟨w5.heap.size, 0, none⟩) 0 0) 0 []) := Lib.hid (World.ownsRow_made (base := w5.heap.size) (w5.drewN n) #[] 0 (Nat.le_refl _) (by decide) rfl)
    go_wp2_with (first
      | (at_builtin; refine wpList_append_SL (by rfl) (.tmp 78) (.tmp 79) _ (by rfl) w5.heap.size 29 i1 (.slice none 0 0) 24 Try.underlying23 hj hy0 hy1 hy2 (by rfl) _ 0 [] (by rfl) HO6.out _ us (by rfl) (HU.out.below ((below_drewN (Below.refl _ _) n).alloc (Nat.le_refl _) _)) hone1.out ab1.1 ab1.2 (le_alloc (Nat.le_refl _) _) ?_; intro v7 w7 hown7 hgrow7; have hb7 := Lib.hid (((below_drewN (Below.refl w5.heap.size w5) n).alloc (Nat.le_refl _) _).grown hgrow7 (le_alloc (Nat.le_refl _) _) (own_lt HO6.out)); simp only [Nat.zero_add, List.nil_append] at hown7; clear hgrow7)
      | (at_builtin; refine wpList_append_SL (by rfl) (.tmp 80) (.tmp 81) _ (by rfl) w5.heap.size 29 i1 (.slice none 0 0) 24 Try.underlying23 hj hy0 hy1 hy2 (by rfl) _ us.length us (by rfl) hown7 _ vs (by rfl) (HV.out.below hb7.out) hone2.out ab2.1 ab2.2 hb7.out.size ?_; intro v8 w8 hown8 hgrow8; have hb8 := Lib.hid (hb7.out.grown hgrow8 hb7.out.size (own_lt hown7)); have HO8 := Lib.hid hown8; clear hown8 hgrow8)
      | (go_at_call 9; refine (lists_true _ _ (splitL a ++ splitL b) _ (by rw [← HL.out]; exact (H3.out.below hB3.out).below hb8.out) (LL.join (SL.own HO8.out ab2.1) ul.out vl.out (fun i h h' => (HU3.out i h h').below hb8.out) (fun i h h' => (HV3.out i h h').below hb8.out))).mono ?_; rintro e w9 ⟨rfl, n9, rfl⟩)
      | (go_at_call 6; refine (awake38 _).mono ?_; rintro e w10 ⟨rfl, hb10⟩))
    go_ret
    exact ⟨rfl, (hB0.out.trans ((below_drewN hb8.out n9).mono hz0)).trans (hb10.mono (Nat.le_trans hz0 hb8.out.size))⟩
  · have hbad := join_bad a b ha hb (by
      by_cases g1 : splitE a = 0
      · by_cases g2 : splitE b = 0
        · exact .inr (.inr (Nat.lt_of_not_le fun g3 => hg ⟨g1, g2, g3⟩))
        · exact .inr (.inl g2)
      · exact .inl g1)
    have gz : splitE (a ++ ⟨#[46]⟩ ++ b) = 7 := hbad
    go_wp2_with fail
    refine (lists_true _ _ (splitL a) _ H5.out (H1.out.below hB1.out)).mono ?_
    rintro e w6 ⟨rfl, n, rfl⟩
    by_cases g1 : splitE a = 0
    · by_cases g2 : splitE b = 0
      · have ga := splitL_len a
        have gb := splitL_len b
        have g3 : 32 < (splitL a).length + (splitL b).length := Nat.lt_of_not_le fun g3 => hg ⟨g1, g2, g3⟩
        go_wp2_with (go_at_call 6; refine (awake38 _).mono ?_; rintro e w10 ⟨rfl, hb10⟩)
        go_ret
        exact ⟨rfl, (below_drewN hB0.out n).trans (hb10.mono hz0)⟩
      · have g2' : (splitE b != 0) = true := by simp [g2]
        go_wp2_with (go_at_call 6; refine (awake38 _).mono ?_; rintro e w10 ⟨rfl, hb10⟩)
        go_ret
        exact ⟨rfl, (below_drewN hB0.out n).trans (hb10.mono hz0)⟩
    · have g1' : (splitE a != 0) = true := by simp [g1]
      go_wp2_with (go_at_call 6; refine (awake38 _).mono ?_; rintro e w10 ⟨rfl, hb10⟩)
      go_ret
      exact ⟨rfl, (below_drewN hB0.out n).trans (hb10.mono hz0)⟩
theorem walkJoins (a b : ByteArray) (w : World) (ha : a.size ≤ maxLen) (hb : b.size ≤ maxLen) :
    Calls Try.prog 5 #[.string a, .string b] w fun e w' => e = .returned (.bool true) ∧ Below w.heap.size w w' := by
  by_cases h : a.size ≤ 120 ∧ b.size ≤ 120
  · exact walkJoins_in a b w h.1 h.2
  · unfold maxLen at ha hb
    by_cases h1 : 120 < a.size
    · clear h
      go_enter Try.func5, Try.ntmps5
      go_wp2_with (go_at_call 6; refine (awake38 _).mono ?_; rintro e w1 ⟨rfl, hb1⟩)
      go_ret
      exact ⟨rfl, hb1⟩
    · have h2 : 120 < b.size := by omega
      clear h
      go_enter Try.func5, Try.ntmps5
      go_wp2_with (go_at_call 6; refine (awake38 _).mono ?_; rintro e w1 ⟨rfl, hb1⟩)
      go_ret
      exact ⟨rfl, hb1⟩
end Go.Proofs.Ytgheiadnjnnjfaa
