/- Contracts of Words in package letter and in clewref04: the words of a line, in new memory. -/
import Derived.Test.YtgheiadnjnnjfaaWordsPlain
namespace Go.Proofs.Ytgheiadnjnnjfaa
open Go.RowKit Go.PlainAid

theorem words_in (c : Int) (w : World) : Calls Try.prog 19 #[.int .u8 c] w fun e w' => e = .returned (.bool (rowB c)) ∧ w = w' := by
  cases h1 : smallB c <;> cases h2 : greatB c <;> cases h3 : digitB c
  all_goals
    go_enter Try.func19, Try.ntmps19
    go_wp2_with (first
      | (go_at_call 20; refine (let_small _ _).mono ?_; rintro e w' ⟨rfl, rfl⟩)
      | (go_at_call 21; refine (let_great _ _).mono ?_; rintro e w' ⟨rfl, rfl⟩)
      | (go_at_call 22; refine (let_digit _ _).mono ?_; rintro e w' ⟨rfl, rfl⟩))
  all_goals
    go_ret
    exact ⟨ret_b (by simp [rowB, *]), rfl⟩
theorem ref_Row (c : Int) (w : World) : Calls Try.prog 24 #[.int .u8 c] w fun e w' => e = .returned (.bool (rowB c)) ∧ w = w' := by
  cases h1 : smallB c <;> cases h2 : greatB c <;> cases h3 : digitB c
  all_goals
    go_enter Try.func24, Try.ntmps24
    go_wp2_with (first
      | (go_at_call 27; refine (ref_small _ _).mono ?_; rintro e w' ⟨rfl, rfl⟩)
      | (go_at_call 18; refine (ref_great _ _).mono ?_; rintro e w' ⟨rfl, rfl⟩)
      | (go_at_call 28; refine (ref_digit _ _).mono ?_; rintro e w' ⟨rfl, rfl⟩))
  all_goals
    go_ret
    exact ⟨ret_b (by simp [rowB, *]), rfl⟩

theorem Try.infoS : (Try.prog.info? 9).map (fun i => (i.zero, i.size, i.bytes)) = some (some (.string ByteArray.empty), 1, 16) := by kernel_rfl

theorem below_grown {w w' : World} (h : Below w.heap.size w w') : w.grownBy w' none := ⟨h.os, h.tape, h.output, h.size, fun k hk _ => h.block k hk⟩
theorem own_below {w w' : World} {base : Nat} {e : TypeId} {size : Nat} {v : Value} {n : Nat} {xs : List Value} (h : w.ownsRow base e size v n xs) (hb : Below w.heap.size w w') : w'.ownsRow base e size v n xs :=
  h.kept (below_grown hb) (by cases hv : v.ownBlock <;> simp)
theorem own_lt {w : World} {base : Nat} {e : TypeId} {size : Nat} {v : Value} {n : Nat} {xs : List Value} (h : w.ownsRow base e size v n xs) : ∀ k, v.ownBlock = some k → base ≤ k := fun k hk => (h.lt k hk).1
/-- One more string appended: what the relation of a loop of words keeps. -/
theorem push_own {w wr w1 : World} {e : TypeId} {v v' : Value} {D : List ByteArray} {x : ByteArray} (hbw : Below w.heap.size w wr) (hown : wr.ownsRow w.heap.size e 1 v D.length (D.map Value.string)) (hg : wr.grownBy w1 v.ownBlock)
    (h' : w1.ownsRow w.heap.size e 1 v' (D.length + 1) (D.map Value.string ++ [.string x])) : w1.ownsRow w.heap.size e 1 v' (D ++ [x]).length ((D ++ [x]).map Value.string) ∧ Below w.heap.size w w1 := by
  refine ⟨by simpa using h', hbw.grown hg hbw.size (own_lt hown)⟩

theorem w_push {D W R K : List ByteArray} {x : ByteArray} (h : D ++ K = W) (hst : K = x :: R) : (D ++ [x]) ++ R = W := by rw [← h, hst]; simp
theorem w_skip {D W R K : List ByteArray} (h : D ++ K = W) (hst : K = R) : D ++ R = W := by rw [← h, hst]
theorem le_alloc {a : Nat} {w : World} (h : a ≤ w.heap.size) (o : Obj) : a ≤ (w.alloc o).heap.size := by rw [World.size_alloc]; omega
theorem one_str (x : ByteArray) : ∀ u ∈ [Value.string x], u.oneCell' = true := by intro u hu; simp at hu; subst hu; rfl
theorem len_str {D : List ByteArray} {k n : Nat} (h : D.length ≤ k) (hk : k ≤ n) (hn : n ≤ 1000000000) : D.length + 1 ≤ maxLen ∧ (D.length + 1) * 16 ≤ 140737488355328 := by unfold maxLen; omega

set_option maxHeartbeats 3200000 in
theorem letWords (s : ByteArray) (w : World) (hs : s.size ≤ 1000000000) : Calls Try.prog 15 #[.string s] w fun e w' => ∃ v, e = .returned v ∧ w'.ownsRow w.heap.size 9 1 v (wordsS s).length ((wordsS s).map Value.string) ∧ (wordsS s).length ≤ s.size ∧ Below w.heap.size w w' := by
  have hb := get_bt s
  obtain ⟨i0, hi, hz0, hz1, hz2⟩ := info_parts Try.infoS
  go_enter Try.func15, Try.ntmps15
  go_wp2
  go_loopw [4, 5] (fun v i wr => ∃ (k : Nat) (D : List ByteArray), k ≤ s.size ∧ i = .int .i64 k ∧ wr.ownsRow w.heap.size 9 1 v D.length (D.map Value.string) ∧ Hid (D ++ restW s k = wordsS s) ∧ D.length ≤ k ∧ Hid (Below w.heap.size w wr)) (fun _ i _ => s.size - (intOf i).toNat)
  case atStart => exact ⟨0, [], Nat.zero_le _, rfl, World.ownsRow_nil _ _ _ _, rfl, Nat.zero_le _, Below.refl _ _⟩
  case round =>
    obtain ⟨k, D, hk, rfl, hown, hD, hDl, hbw⟩ := hrel
    have hle := len_str hDl hk hs
    by_cases hlt : k < s.size
    · go_wp2
      go_loop [6] (fun n => ∃ m : Nat, k + m ≤ s.size ∧ n = .int .i64 m ∧ Hid (∀ j, j < m → rowB (bt s (k + j)) = true)) (fun n => s.size - (intOf n).toNat)
      case atStart => exact ⟨0, by omega, rfl, Lib.hid (fun j hj => by omega)⟩
      case round =>
        obtain ⟨m, hm, rfl, hrow⟩ := hrel
        by_cases hgo : k + m < s.size ∧ rowB (bt s (k + m)) = true
        · obtain ⟨hlt2, hr⟩ := hgo
          go_wp2_with (go_at_call 19; refine (words_in _ _).mono ?_; rintro e w' ⟨rfl, rfl⟩)
          go_round
          case rel => exact ⟨m + 1, by omega, by go_num, Lib.hid (fun j hj => by
            by_cases e : j = m
            · rw [e]; exact hr
            · exact hrow.out j (by omega))⟩
          case measure => simp [intOf]; omega
        · have hend : k + m = s.size ∨ rowB (bt s (k + m)) = false := by
            by_cases h1 : k + m < s.size
            · right
              cases h2 : rowB (bt s (k + m)) with
              | false => rfl
              | true => exact absurd ⟨h1, h2⟩ hgo
            · left; omega
          have HE := Lib.hid hend
          clear hgo hend
          by_cases hm0 : 0 < m
          · have hst := Lib.hid (rest_word s k m hm0 hm hrow.out HE.out)
            have hxs : (s.extract k (k + m)).size ≤ maxLen := by unfold maxLen; simp; omega
            rcases HE.out with h1 | h1
            · have h1' := Lib.hid h1
              have h2 : ¬ k + m < s.size := by omega
              clear h1
              go_wp2_with (first
                | (go_at_call 19; refine (words_in _ _).mono ?_; rintro e w' ⟨rfl, rfl⟩)
                | (go_at_call 23; refine (letLower _ _ hxs).mono ?_; rintro e w1 ⟨rfl, hb1⟩)
                | (at_builtin; refine wpList_append_own _ rfl _ _ 29 rfl w.heap.size 9 i0 (.string ByteArray.empty) 1 16 Try.underlying29 hi hz0 hz1 hz2 rfl (by decide) _ _ _ rfl ((own_below hown hb1).alloc _) ⟨w1.heap.size, 0, none⟩ 1 1 [.string (lowS (s.extract k (k + m)))] rfl rfl (cell_one_new _ _ _) (one_str _) hle.1 hle.2 (le_alloc (Nat.le_trans hbw.out.size hb1.size) _) ?_; intro v' w2 hown' hgrow _; have hp := push_own ((hbw.out.trans (hb1.mono hbw.out.size)).alloc (Nat.le_trans hbw.out.size hb1.size) _) ((own_below hown hb1).alloc _) hgrow hown'; have HP := Lib.hid hp.2; have hpo := hp.1; clear hp hown' hgrow hb1))
              go_roundw
              case rel => exact ⟨k + m, D ++ [lowS (s.extract k (k + m))], by omega, by go_num, hpo, Lib.hid (w_push hD.out hst.out), by simp; omega, HP⟩
              case measure => simp [intOf]; omega
            · by_cases h2 : k + m < s.size
              · go_wp2_with (first
                  | (go_at_call 19; refine (words_in _ _).mono ?_; rintro e w' ⟨rfl, rfl⟩)
                  | (go_at_call 23; refine (letLower _ _ hxs).mono ?_; rintro e w1 ⟨rfl, hb1⟩)
                  | (at_builtin; refine wpList_append_own _ rfl _ _ 29 rfl w.heap.size 9 i0 (.string ByteArray.empty) 1 16 Try.underlying29 hi hz0 hz1 hz2 rfl (by decide) _ _ _ rfl ((own_below hown hb1).alloc _) ⟨w1.heap.size, 0, none⟩ 1 1 [.string (lowS (s.extract k (k + m)))] rfl rfl (cell_one_new _ _ _) (one_str _) hle.1 hle.2 (le_alloc (Nat.le_trans hbw.out.size hb1.size) _) ?_; intro v' w2 hown' hgrow _; have hp := push_own ((hbw.out.trans (hb1.mono hbw.out.size)).alloc (Nat.le_trans hbw.out.size hb1.size) _) ((own_below hown hb1).alloc _) hgrow hown'; have HP := Lib.hid hp.2; have hpo := hp.1; clear hp hown' hgrow hb1))
                go_roundw
                case rel => exact ⟨k + m, D ++ [lowS (s.extract k (k + m))], by omega, by go_num, hpo, Lib.hid (w_push hD.out hst.out), by simp; omega, HP⟩
                case measure => simp [intOf]; omega
              · clear h1
                go_wp2_with (first
                  | (go_at_call 19; refine (words_in _ _).mono ?_; rintro e w' ⟨rfl, rfl⟩)
                  | (go_at_call 23; refine (letLower _ _ hxs).mono ?_; rintro e w1 ⟨rfl, hb1⟩)
                  | (at_builtin; refine wpList_append_own _ rfl _ _ 29 rfl w.heap.size 9 i0 (.string ByteArray.empty) 1 16 Try.underlying29 hi hz0 hz1 hz2 rfl (by decide) _ _ _ rfl ((own_below hown hb1).alloc _) ⟨w1.heap.size, 0, none⟩ 1 1 [.string (lowS (s.extract k (k + m)))] rfl rfl (cell_one_new _ _ _) (one_str _) hle.1 hle.2 (le_alloc (Nat.le_trans hbw.out.size hb1.size) _) ?_; intro v' w2 hown' hgrow _; have hp := push_own ((hbw.out.trans (hb1.mono hbw.out.size)).alloc (Nat.le_trans hbw.out.size hb1.size) _) ((own_below hown hb1).alloc _) hgrow hown'; have HP := Lib.hid hp.2; have hpo := hp.1; clear hp hown' hgrow hb1))
                go_roundw
                case rel => exact ⟨k + m, D ++ [lowS (s.extract k (k + m))], by omega, by go_num, hpo, Lib.hid (w_push hD.out hst.out), by simp; omega, HP⟩
                case measure => simp [intOf]; omega
          · have hm00 : m = 0 := by omega
            subst hm00
            have hr : rowB (bt s k) = false := by
              rcases HE.out with h | h
              · omega
              · simpa using h
            have hst := Lib.hid (rest_sign s k hlt hr)
            by_cases hdot : bt s k = 46
            · rw [if_pos (.inl hdot)] at hst
              have hd' : (bt s k == 46) = true := by simp [hdot]
              have hdd := Lib.hid hdot
              clear hdot
              go_wp2_with (first
                | (go_at_call 19; refine (words_in _ _).mono ?_; rintro e w' ⟨rfl, rfl⟩)
                | (at_builtin; refine wpList_append_own _ rfl _ _ 29 rfl w.heap.size 9 i0 (.string ByteArray.empty) 1 16 Try.underlying29 hi hz0 hz1 hz2 rfl (by decide) _ _ _ rfl (hown.alloc _) ⟨wr.heap.size, 0, none⟩ 1 1 [.string (s.extract k (k + 1))] rfl rfl (cell_one_new _ _ _) (one_str _) hle.1 hle.2 (le_alloc hbw.out.size _) ?_; intro v' w2 hown' hgrow _; have hp := push_own (hbw.out.alloc hbw.out.size _) (hown.alloc _) hgrow hown'; have HP := Lib.hid hp.2; have hpo := hp.1; clear hp hown' hgrow))
              go_roundw
              case rel => exact ⟨k + 1, D ++ [s.extract k (k + 1)], by omega, by go_num, hpo, Lib.hid (w_push hD.out hst.out), by simp; omega, HP⟩
              case measure => simp [intOf]; omega
            · have hd' : (bt s k == 46) = false := by simp [hdot]
              by_cases hcom : bt s k = 44
              · rw [if_pos (.inr hcom)] at hst
                have hc' : (bt s k == 44) = true := by simp [hcom]
                clear hdot hcom
                go_wp2_with (first
                  | (go_at_call 19; refine (words_in _ _).mono ?_; rintro e w' ⟨rfl, rfl⟩)
                  | (at_builtin; refine wpList_append_own _ rfl _ _ 29 rfl w.heap.size 9 i0 (.string ByteArray.empty) 1 16 Try.underlying29 hi hz0 hz1 hz2 rfl (by decide) _ _ _ rfl (hown.alloc _) ⟨wr.heap.size, 0, none⟩ 1 1 [.string (s.extract k (k + 1))] rfl rfl (cell_one_new _ _ _) (one_str _) hle.1 hle.2 (le_alloc hbw.out.size _) ?_; intro v' w2 hown' hgrow _; have hp := push_own (hbw.out.alloc hbw.out.size _) (hown.alloc _) hgrow hown'; have HP := Lib.hid hp.2; have hpo := hp.1; clear hp hown' hgrow))
                go_roundw
                case rel => exact ⟨k + 1, D ++ [s.extract k (k + 1)], by omega, by go_num, hpo, Lib.hid (w_push hD.out hst.out), by simp; omega, HP⟩
                case measure => simp [intOf]; omega
              · rw [if_neg (fun h => h.elim hdot hcom), List.nil_append] at hst
                have hc' : (bt s k == 44) = false := by simp [hcom]
                go_wp2_with (go_at_call 19; refine (words_in _ _).mono ?_; rintro e w' ⟨rfl, rfl⟩)
                go_roundw
                case rel => exact ⟨k + 1, D, by omega, by go_num, hown, Lib.hid (w_skip hD.out hst.out), by omega, hbw⟩
                case measure => simp [intOf]; omega
    · have hend := Lib.hid (rest_end s (k := k) (by omega))
      go_wp2
      go_ret
      have hDe : D = wordsS s := by have := hD.out; rw [hend.out, List.append_nil] at this; exact this
      subst hDe
      exact ⟨_, rfl, hown, by omega, hbw⟩
end Go.Proofs.Ytgheiadnjnnjfaa
