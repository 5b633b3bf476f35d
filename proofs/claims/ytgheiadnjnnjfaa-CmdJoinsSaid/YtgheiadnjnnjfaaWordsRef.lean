/- Contract of Words in clewref04: the words of a line, in new memory. -/
import Derived.Test.YtgheiadnjnnjfaaWords
namespace Go.Proofs.Ytgheiadnjnnjfaa
open Go.RowKit Go.PlainAid

/-- The same, the word's end by its place. -/
theorem rest_word2 (s : ByteArray) (k q : Nat) (hm : k < q) (hq : q ≤ s.size) (hr : ∀ j, k ≤ j → j < q → rowB (bt s j) = true) (he : q = s.size ∨ rowB (bt s q) = false) :
    restW s k = lowS (s.extract k q) :: restW s q := by
  have e : k + (q - k) = q := by omega
  have := rest_word s k (q - k) (by omega) (by omega) (fun j hj => hr _ (by omega) (by omega)) (by rw [e]; exact he)
  rwa [e] at this

set_option maxHeartbeats 3200000 in
theorem refWords (s : ByteArray) (w : World) (hs : s.size ≤ 1000000000) : Calls Try.prog 16 #[.string s] w fun e w' => ∃ v, e = .returned v ∧ w'.ownsRow w.heap.size 9 1 v (wordsS s).length ((wordsS s).map Value.string) ∧ (wordsS s).length ≤ s.size ∧ Below w.heap.size w w' := by
  have hb := get_bt s
  obtain ⟨i0, hi, hz0, hz1, hz2⟩ := info_parts Try.infoS
  go_enter Try.func16, Try.ntmps16
  go_wp2
  go_loopw [3, 4] (fun v i wr => ∃ (k : Nat) (D : List ByteArray), k ≤ s.size ∧ i = .int .i64 k ∧ wr.ownsRow w.heap.size 9 1 v D.length (D.map Value.string) ∧ Hid (D ++ restW s k = wordsS s) ∧ D.length ≤ k ∧ Hid (Below w.heap.size w wr)) (fun _ i _ => s.size - (intOf i).toNat)
  case atStart => exact ⟨0, [], Nat.zero_le _, rfl, World.ownsRow_nil _ _ _ _, rfl, Nat.zero_le _, Below.refl _ _⟩
  case round =>
    obtain ⟨k, D, hk, rfl, hown, hD, hDl, hbw⟩ := hrel
    have hle := len_str hDl hk hs
    by_cases hlt : k < s.size
    · go_wp2
      go_loop [5] (fun n => ∃ q : Nat, k ≤ q ∧ q ≤ s.size ∧ n = .int .i64 q ∧ Hid (∀ j, k ≤ j → j < q → rowB (bt s j) = true)) (fun n => s.size - (intOf n).toNat)
      case atStart => exact ⟨k, Nat.le_refl _, by omega, rfl, Lib.hid (fun j h1 h2 => by omega)⟩
      case round =>
        obtain ⟨q, hkq, hq, rfl, hrow⟩ := hrel
        by_cases hgo : q < s.size ∧ rowB (bt s q) = true
        · obtain ⟨hlt2, hr⟩ := hgo
          go_wp2_with (go_at_call 24; refine (ref_Row _ _).mono ?_; rintro e w' ⟨rfl, rfl⟩)
          go_round
          case rel => exact ⟨q + 1, by omega, by omega, by go_num, Lib.hid (fun j h1 h2 => by
            by_cases e : j = q
            · rw [e]; exact hr
            · exact hrow.out j h1 (by omega))⟩
          case measure => simp [intOf]; omega
        · have hend : q = s.size ∨ rowB (bt s q) = false := by
            by_cases h1 : q < s.size
            · right
              cases h2 : rowB (bt s q) with
              | false => rfl
              | true => exact absurd ⟨h1, h2⟩ hgo
            · left; omega
          have HE := Lib.hid hend
          clear hgo hend
          by_cases hm0 : k < q
          · have hst := Lib.hid (rest_word2 s k q hm0 hq hrow.out HE.out)
            have hxs : (s.extract k q).size ≤ maxLen := by unfold maxLen; simp; omega
            rcases HE.out with h1 | h1
            · have h1' := Lib.hid h1
              have h2 : ¬ q < s.size := by omega
              clear h1
              go_wp2_with (first
                | (go_at_call 24; refine (ref_Row _ _).mono ?_; rintro e w' ⟨rfl, rfl⟩)
                | (go_at_call 13; refine (refLower _ _ hxs).mono ?_; rintro e w1 ⟨rfl, hb1⟩)
                | (at_builtin; refine wpList_append_own _ rfl _ _ 29 rfl w.heap.size 9 i0 (.string ByteArray.empty) 1 16 Try.underlying29 hi hz0 hz1 hz2 rfl (by decide) _ _ _ rfl ((own_below hown hb1).alloc _) ⟨w1.heap.size, 0, none⟩ 1 1 [.string (lowS (s.extract k (q)))] rfl rfl (cell_one_new _ _ _) (one_str _) hle.1 hle.2 (le_alloc (Nat.le_trans hbw.out.size hb1.size) _) ?_; intro v' w2 hown' hgrow _; have hp := push_own ((hbw.out.trans (hb1.mono hbw.out.size)).alloc (Nat.le_trans hbw.out.size hb1.size) _) ((own_below hown hb1).alloc _) hgrow hown'; have HP := Lib.hid hp.2; have hpo := hp.1; clear hp hown' hgrow hb1))
              go_roundw
              case rel => exact ⟨q, D ++ [lowS (s.extract k (q))], by omega, by go_num, hpo, Lib.hid (w_push hD.out hst.out), by simp; omega, HP⟩
              case measure => simp [intOf]; omega
            · by_cases h2 : q < s.size
              · go_wp2_with (first
                  | (go_at_call 24; refine (ref_Row _ _).mono ?_; rintro e w' ⟨rfl, rfl⟩)
                  | (go_at_call 13; refine (refLower _ _ hxs).mono ?_; rintro e w1 ⟨rfl, hb1⟩)
                  | (at_builtin; refine wpList_append_own _ rfl _ _ 29 rfl w.heap.size 9 i0 (.string ByteArray.empty) 1 16 Try.underlying29 hi hz0 hz1 hz2 rfl (by decide) _ _ _ rfl ((own_below hown hb1).alloc _) ⟨w1.heap.size, 0, none⟩ 1 1 [.string (lowS (s.extract k (q)))] rfl rfl (cell_one_new _ _ _) (one_str _) hle.1 hle.2 (le_alloc (Nat.le_trans hbw.out.size hb1.size) _) ?_; intro v' w2 hown' hgrow _; have hp := push_own ((hbw.out.trans (hb1.mono hbw.out.size)).alloc (Nat.le_trans hbw.out.size hb1.size) _) ((own_below hown hb1).alloc _) hgrow hown'; have HP := Lib.hid hp.2; have hpo := hp.1; clear hp hown' hgrow hb1))
                go_roundw
                case rel => exact ⟨q, D ++ [lowS (s.extract k (q))], by omega, by go_num, hpo, Lib.hid (w_push hD.out hst.out), by simp; omega, HP⟩
                case measure => simp [intOf]; omega
              · clear h1
                go_wp2_with (first
                  | (go_at_call 24; refine (ref_Row _ _).mono ?_; rintro e w' ⟨rfl, rfl⟩)
                  | (go_at_call 13; refine (refLower _ _ hxs).mono ?_; rintro e w1 ⟨rfl, hb1⟩)
                  | (at_builtin; refine wpList_append_own _ rfl _ _ 29 rfl w.heap.size 9 i0 (.string ByteArray.empty) 1 16 Try.underlying29 hi hz0 hz1 hz2 rfl (by decide) _ _ _ rfl ((own_below hown hb1).alloc _) ⟨w1.heap.size, 0, none⟩ 1 1 [.string (lowS (s.extract k (q)))] rfl rfl (cell_one_new _ _ _) (one_str _) hle.1 hle.2 (le_alloc (Nat.le_trans hbw.out.size hb1.size) _) ?_; intro v' w2 hown' hgrow _; have hp := push_own ((hbw.out.trans (hb1.mono hbw.out.size)).alloc (Nat.le_trans hbw.out.size hb1.size) _) ((own_below hown hb1).alloc _) hgrow hown'; have HP := Lib.hid hp.2; have hpo := hp.1; clear hp hown' hgrow hb1))
                go_roundw
                case rel => exact ⟨q, D ++ [lowS (s.extract k (q))], by omega, by go_num, hpo, Lib.hid (w_push hD.out hst.out), by simp; omega, HP⟩
                case measure => simp [intOf]; omega
          · have hm00 : q = k := by omega
            subst hm00
            have hr : rowB (bt s q) = false := by
              rcases HE.out with h | h
              · omega
              · exact h
            have hst := Lib.hid (rest_sign s q hlt hr)
            by_cases hdot : bt s q = 46
            · rw [if_pos (.inl hdot)] at hst
              have hd' : (bt s q == 46) = true := by simp [hdot]
              have hdd := Lib.hid hdot
              clear hdot
              go_wp2_with (first
                | (go_at_call 24; refine (ref_Row _ _).mono ?_; rintro e w' ⟨rfl, rfl⟩)
                | (at_builtin; refine wpList_append_own _ rfl _ _ 29 rfl w.heap.size 9 i0 (.string ByteArray.empty) 1 16 Try.underlying29 hi hz0 hz1 hz2 rfl (by decide) _ _ _ rfl (hown.alloc _) ⟨wr.heap.size, 0, none⟩ 1 1 [.string (s.extract q (q + 1))] rfl rfl (cell_one_new _ _ _) (one_str _) hle.1 hle.2 (le_alloc hbw.out.size _) ?_; intro v' w2 hown' hgrow _; have hp := push_own (hbw.out.alloc hbw.out.size _) (hown.alloc _) hgrow hown'; have HP := Lib.hid hp.2; have hpo := hp.1; clear hp hown' hgrow))
              go_roundw
              case rel => exact ⟨q + 1, D ++ [s.extract q (q + 1)], by omega, by go_num, hpo, Lib.hid (w_push hD.out hst.out), by simp; omega, HP⟩
              case measure => simp [intOf]; omega
            · have hd' : (bt s q == 46) = false := by simp [hdot]
              by_cases hcom : bt s q = 44
              · rw [if_pos (.inr hcom)] at hst
                have hc' : (bt s q == 44) = true := by simp [hcom]
                clear hdot hcom
                go_wp2_with (first
                  | (go_at_call 24; refine (ref_Row _ _).mono ?_; rintro e w' ⟨rfl, rfl⟩)
                  | (at_builtin; refine wpList_append_own _ rfl _ _ 29 rfl w.heap.size 9 i0 (.string ByteArray.empty) 1 16 Try.underlying29 hi hz0 hz1 hz2 rfl (by decide) _ _ _ rfl (hown.alloc _) ⟨wr.heap.size, 0, none⟩ 1 1 [.string (s.extract q (q + 1))] rfl rfl (cell_one_new _ _ _) (one_str _) hle.1 hle.2 (le_alloc hbw.out.size _) ?_; intro v' w2 hown' hgrow _; have hp := push_own (hbw.out.alloc hbw.out.size _) (hown.alloc _) hgrow hown'; have HP := Lib.hid hp.2; have hpo := hp.1; clear hp hown' hgrow))
                go_roundw
                case rel => exact ⟨q + 1, D ++ [s.extract q (q + 1)], by omega, by go_num, hpo, Lib.hid (w_push hD.out hst.out), by simp; omega, HP⟩
                case measure => simp [intOf]; omega
              · rw [if_neg (fun h => h.elim hdot hcom), List.nil_append] at hst
                have hc' : (bt s q == 44) = false := by simp [hcom]
                go_wp2_with (go_at_call 24; refine (ref_Row _ _).mono ?_; rintro e w' ⟨rfl, rfl⟩)
                go_roundw
                case rel => exact ⟨q + 1, D, by omega, by go_num, hown, Lib.hid (w_skip hD.out hst.out), by omega, hbw⟩
                case measure => simp [intOf]; omega
    · have hend := Lib.hid (rest_end s (k := k) (by omega))
      go_wp2
      go_ret
      have hDe : D = wordsS s := by have := hD.out; rw [hend.out, List.append_nil] at this; exact this
      subst hDe
      exact ⟨_, rfl, hown, by omega, hbw⟩
end Go.Proofs.Ytgheiadnjnnjfaa
