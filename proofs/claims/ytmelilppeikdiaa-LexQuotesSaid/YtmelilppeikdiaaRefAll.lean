/- clewref09.All. -/
import Derived.Test.YtmelilppeikdiaaRefOne
import Derived.Test.YtmelilppeikdiaaRefGap
import Derived.Test.YtmelilppeikdiaaAll
namespace Go.Proofs.Ytmelilppeikdiaa
open Go.RowKit Go.PlainAid
set_option linter.unusedVariables false
set_option linter.unusedSimpArgs false

theorem textL_off : ∀ (l out : List UInt8) (j : Nat), (textL l out j).off ≤ j + l.length
  | [], out, j => by simp [textL_nil]
  | b :: t, out, j => by
    rw [textL_cons]
    split
    · simp
    split
    · split <;> simp
    split
    · simp
    split
    · cases t with
      | nil => simp [textM]
      | cons c t' =>
        rw [textM]
        split
        · have := textL_off t' (out ++ [10]) (j + 2); simp; omega
        · split
          · have := textL_off t' (out ++ [c]) (j + 2); simp; omega
          · simp
    · have := textL_off t (out ++ [b]) (j + 1); simp; omega
theorem oneL_off (s : ByteArray) (q : Nat) (h : q < s.size) : q + (oneL (sfx s q)).off ≤ s.size := by
  unfold oneL
  split
  · have := textL_off ((sfx s q).drop 1) [] 1
    rw [sfx_drop, sfx_len] at this
    rw [sfx_drop]; omega
  · split
    · unfold numT; split <;> (show q + 0 ≤ s.size; omega)
    · split
      · unfold wordT; split
        · show q + 0 ≤ s.size; omega
        · split <;> (show q + 0 ≤ s.size; omega)
      · unfold signT; split <;> (show q + 0 ≤ s.size; omega)

/-- What holds at the head of All's loop. -/
structure AlR (w wr : World) (v : Value) (out : List TT) : Prop where
  own : wr.ownsRow (w.heap.size + 1) 33 5 v out.length (tokRows out).flatten
  fail : BK wr w.heap.size [.int .i64 0, .int .i64 0, .int .i64 0] 28
  bel : Below w.heap.size w wr
theorem AlR.below {w wr w' : World} {v : Value} {out : List TT} (h : AlR w wr v out) (hb : Below wr.heap.size wr w') : AlR w w' v out :=
  ⟨ow_below h.own hb, h.fail.below hb, h.bel.trans (hb.mono h.bel.size)⟩
theorem AlR.next {w w2 w' : World} {v v' : Value} {out : List TT} {x : TT} {o1 o2 : Obj} (h : AlR w w2 v out) (hg : ((w2.alloc o1).alloc o2).grownBy w' v.ownBlock)
    (hown : w'.ownsRow (w.heap.size + 1) 33 5 v' (out.length + 1) ((tokRows out).flatten ++ tokCells x)) : AlR w w' v' (out ++ [x]) := by
  have hlo : ∀ j, v.ownBlock = some j → w.heap.size + 1 ≤ j := ow_lo h.own
  have h1 : w2.grownBy w' v.ownBlock := gr_trans (gr_alloc _ _ _) (gr_trans (gr_alloc _ _ _) hg)
  refine ⟨?_, h.fail.kept h1 (fun j hj => by have := hlo j hj; omega), h.bel.grown h1 h.bel.size (fun j hj => by have := hlo j hj; omega)⟩
  simpa [tokRows] using hown

theorem hS2a {w wr : World} {v : Value} {out : List TT} {o : Obj} (h : AlR w wr v out) : AlR w (wr.alloc o) v out := h.below ((Below.refl _ _).alloc (Nat.le_refl _) _)

set_option maxRecDepth 100000 in
set_option maxHeartbeats 8000000 in
theorem refAll_fits (s : ByteArray) (w : World) (hs : s.size ≤ 65536) :
    Calls Try.prog 14 #[.string s] w fun e' w' => ∃ v, e' = .returned (.tuple #[v, .agg #[.int .i64 (allR s).err, .int .i64 (allR s).fl, .int .i64 (allR s).fc]]) ∧ SLN 5 w' v (tokRows (allR s).toks) ∧ Below w.heap.size w w' := by
  obtain ⟨i0, hi, hz0, hz1, hz2⟩ := info_parts Try.infoT
  obtain ⟨A, hA⟩ : ∃ A, allR s = A := ⟨_, rfl⟩
  rw [hA]
  have HA : Hid (allA s (s.size + 1) 0 [] = A) := Lib.hid (by rw [← hA, allR, if_neg (by omega)])
  clear hA
  go_enter Try.func14, Try.ntmps14
  go_wp2_with fail
  have HS : Hid (AlR w (w.alloc (.cells #[.int .i64 0, .int .i64 0, .int .i64 0] 28)) (.slice none 0 0) []) := Lib.hid
    ⟨World.ownsRow_nil _ _ _ _, BK.new w [.int .i64 0, .int .i64 0, .int .i64 0] 28, bl_a (Below.refl _ _) _⟩
  go_loopw [4, 5] (fun v p wr => ∃ (k f : Nat) (out : List TT), p = .int .i64 k ∧ k ≤ s.size ∧ out.length ≤ 16384 ∧ s.size - k < f ∧ Hid (AlR w wr v out) ∧ Hid (allA s f k out = A)) (fun _ p _ => s.size - (intOf p).toNat)
  case atStart => exact ⟨0, s.size + 1, [], rfl, by omega, by simp, by omega, HS, HA⟩
  case round =>
    obtain ⟨k, f, out, rfl, hks, hol, hf, hS, hX⟩ := hrel
    obtain ⟨f, rfl⟩ : ∃ g, f = g + 1 := ⟨f - 1, by omega⟩
    have hX1 : Hid (restA s f (k + (gapL (sfx s k) false).1) (gapL (sfx s k) false).2 out = A) := Lib.hid (by rw [← allA_succ]; exact hX.out)
    have hFt := Lib.hid (gap_fault_s s k)
    have hgle := gapL_le (sfx s k) false
    rw [sfx_len] at hgle
    have hgap := fun w => refGap s k w hks (by omega)
    obtain ⟨va, vc, hv⟩ := ow_shape hS.out.own
    subst hv
    obtain ⟨q, hq⟩ : ∃ q, k + (gapL (sfx s k) false).1 = q := ⟨_, rfl⟩
    obtain ⟨ok, hok⟩ : ∃ ok, (gapL (sfx s k) false).2 = ok := ⟨_, rfl⟩
    rw [hq, hok] at hX1 hFt hgap
    have HGap := Lib.hid hgap
    have hkq : k ≤ q := by omega
    have hqle : q ≤ s.size := by omega
    clear hX hgap hq hok hgle
    cases ok with
    | false =>
      have HAe : Hid (A = ⟨[], 13, ln s q, cl s q⟩) := Lib.hid (by rw [← hX1.out]; rfl)
      go_wp2_with (first
        | (go_at_call 24; refine (HGap.out _).mono ?_; rintro e w' ⟨rfl, rfl⟩)
        | (go_at_call 25; refine (refFail s q 13 _ hqle (by omega)).mono ?_; rintro e w1 ⟨rfl, hb1⟩; have HS1 := Lib.hid (hS.out.below hb1); clear hb1; have f0 := HS1.out.fail.cell 0; have f1 := HS1.out.fail.cell 1; have f2 := HS1.out.fail.cell 2; have z0 := HS1.out.fail.fr 0; have z1 := HS1.out.fail.fr 1; have z2 := HS1.out.fail.fr 2; have hFlt := HS1.out.fail.lt))
      (try simp only [Exit.inBlock, Exit.then])
      refine bodyPost_ret (v := .tuple #[.slice none 0 0, .agg #[.int .i64 13, .int .i64 (ln s q), .int .i64 (cl s q)]]) ?_ rfl ⟨.slice none 0 0, ?_, ?_, ?_⟩
      · rw [results_tmp_cell rfl]; go_simp
      · rw [HAe.out]
      · rw [HAe.out]; exact SLN.nil _ _ _ _
      · exact bl_s (bl_s (bl_s HS1.out.bel _ _) _ _) _ _
    | true =>
      by_cases hqs : q < s.size
      · have hOne := fun w => refOne s q w hqs (by omega)
        have hlen := oneL_len (sfx s q) (by intro h; have := sfx_len s q; rw [h] at this; simp at this; omega)
        have hoff := oneL_off s q hqs
        obtain ⟨T, hTe⟩ : ∃ T, oneL (sfx s q) = T := ⟨_, rfl⟩
        rw [hTe, sfx_len] at hlen
        have HOne := Lib.hid hOne
        have HTe := Lib.hid hTe
        have HLN := Lib.hid hlen
        rw [hTe] at hoff
        clear hOne hlen hTe
        go_wp2_with (first
          | (go_at_call 24; refine (HGap.out _).mono ?_; rintro e w' ⟨rfl, rfl⟩)
          | (go_at_call 26; refine (refAt s q _ hqle (by omega)).mono ?_; rintro e w' ⟨rfl, rfl⟩)
          | fail)
        refine (HOne.out _).mono ?_
        rintro e w1 ⟨v, to, er, wh, rfl, hP, hb1⟩
        rw [HTe.out] at hP
        have HS1 := Lib.hid (hS.out.below hb1)
        clear hb1
        rcases hP with ⟨hT0, rfl, rfl, rfl⟩ | ⟨hT0, ⟨kk, tt, nn, rfl⟩, rfl, rfl⟩
        · have HT0 := Lib.hid hT0
          have hl2 := HLN.out hT0
          clear hT0
          rw [tokV]
          by_cases hn : out.length = 16384
          · have HAe : Hid (A = ⟨[], 7, ln s q, cl s q⟩) := Lib.hid (by rw [← hX1.out, rest_many s f q out hqs (by rw [HTe.out]; exact HT0.out) hn])
            have hn' : ((out.length : Int) == 16384) = true := by simp; omega
            clear hn
            go_wp2_with (first
              | (go_at_call 25; refine (refFail s q 7 _ hqle (by omega)).mono ?_; rintro e w2 ⟨rfl, hb2⟩; have HS2 := Lib.hid ((hS2a HS1.out).below hb2); clear hb2; have f0 := HS2.out.fail.cell 0; have f1 := HS2.out.fail.cell 1; have f2 := HS2.out.fail.cell 2; have z0 := HS2.out.fail.fr 0; have z1 := HS2.out.fail.fr 1; have z2 := HS2.out.fail.fr 2; have hFlt := HS2.out.fail.lt))
            (try simp only [Exit.inBlock, Exit.then])
            refine bodyPost_ret (v := .tuple #[.slice none 0 0, .agg #[.int .i64 7, .int .i64 (ln s q), .int .i64 (cl s q)]]) ?_ rfl ⟨.slice none 0 0, ?_, ?_, ?_⟩
            · rw [results_tmp_cell rfl]; go_simp
            · rw [HAe.out]
            · rw [HAe.out]; exact SLN.nil _ _ _ _
            · exact bl_s (bl_s (bl_s HS2.out.bel _ _) _ _) _ _
          · have HX2 : Hid (allA s f (q + T.len) (out ++ [⟨T, ln s q, cl s q⟩]) = A) := Lib.hid (by rw [← hX1.out, rest_more s f q out hqs (by rw [HTe.out]; exact HT0.out) hn, HTe.out])
            have hn' : ((out.length : Int) == 16384) = false := by simp; omega
            have hol' : out.length + 1 ≤ 16384 := by omega
            clear hn
            have hb1 : out.length + 1 ≤ maxLen ∧ (out.length + 1) * 48 ≤ 140737488355328 := by unfold maxLen; omega
            have hsz : w.heap.size + 1 ≤ w1.heap.size := HS1.out.fail.lt
            go_wp2_with (at_builtin; refine wpList_append_own _ rfl _ _ 25 rfl (w.heap.size + 1) 33 i0 _ 5 48 Try.underlying25 hi hz0 hz1 hz2 rfl (by decide) _ _ _ rfl ((HS1.out.own.alloc _).alloc _) ⟨w1.heap.size + 1, 0, none⟩ 1 1 (tokCells ⟨T, ln s q, cl s q⟩) rfl rfl (tok_news w1 ⟨T, ln s q, cl s q⟩ _) (tok_one _) hb1.1 hb1.2 (ow_le (ow_le hsz _) _) ?_; intro v5 w5 hown5 hgrow5 _)
            have HS5 := Lib.hid (HS1.out.next hgrow5 hown5)
            clear hown5 hgrow5
            go_wp2
            go_roundw
            case rel => exact ⟨q + T.len, f, _, rfl, by omega, by simp; omega, by omega, HS5, HX2⟩
            case measure => simp [intOf]; omega
        · have HAe : Hid (A = ⟨[], T.err, ln s (q + T.off), cl s (q + T.off)⟩) := Lib.hid (by
            have := (rest_bad s f q true out hFt.out (.inr hqs) (.inr (by rw [HTe.out]; exact hT0))).2.2
            rw [HTe.out, hX1.out] at this; exact this)
          have hT1 : (T.err == 0) = false := by simp [hT0]
          have hT2 : (T.err != 0) = true := by simp [hT0]
          clear hT0
          go_wp2_with (first
            | (go_at_call 25; refine (refFail s (q + T.off) T.err _ hoff (by omega)).mono ?_; rintro e w2 ⟨rfl, hb2⟩; have HS2 := Lib.hid ((hS2a HS1.out).below hb2); clear hb2; have f0 := HS2.out.fail.cell 0; have f1 := HS2.out.fail.cell 1; have f2 := HS2.out.fail.cell 2; have z0 := HS2.out.fail.fr 0; have z1 := HS2.out.fail.fr 1; have z2 := HS2.out.fail.fr 2; have hFlt := HS2.out.fail.lt))
          (try simp only [Exit.inBlock, Exit.then])
          refine bodyPost_ret (v := .tuple #[.slice none 0 0, .agg #[.int .i64 T.err, .int .i64 (ln s (q + T.off)), .int .i64 (cl s (q + T.off))]]) ?_ rfl ⟨.slice none 0 0, ?_, ?_, ?_⟩
          · rw [results_tmp_cell rfl]; go_simp
          · rw [HAe.out]
          · rw [HAe.out]; exact SLN.nil _ _ _ _
          · exact bl_s (bl_s (bl_s HS2.out.bel _ _) _ _) _ _
      · have HAe : Hid (A = ⟨out ++ [⟨endT, ln s q, cl s q⟩], 0, 0, 0⟩) := Lib.hid (by rw [← hX1.out, rest_end s f q out (by omega)])
        have hb1 : out.length + 1 ≤ maxLen ∧ (out.length + 1) * 48 ≤ 140737488355328 := by unfold maxLen; omega
        have f0 := hS.out.fail.cell 0
        have f1 := hS.out.fail.cell 1
        have f2 := hS.out.fail.cell 2
        have z0 := hS.out.fail.fr 0
        have z1 := hS.out.fail.fr 1
        have z2 := hS.out.fail.fr 2
        have hFlt := hS.out.fail.lt
        have hlo := ow_lo hS.out.own
        have hlo' : ∀ j, (Value.slice va out.length vc).ownBlock = some j → j ≠ w.heap.size := fun j hj => by have := hlo j hj; omega
        have HLO := Lib.hid hlo
        have HLO' := Lib.hid hlo'
        clear hlo hlo'
        have hsz : w.heap.size + 1 ≤ wr.heap.size := hFlt
        go_wp2_with (first
          | (go_at_call 24; refine (HGap.out _).mono ?_; rintro e w' ⟨rfl, rfl⟩)
          | (go_at_call 26; refine (refAt s q _ hqle (by omega)).mono ?_; rintro e w' ⟨rfl, rfl⟩)
          | (at_builtin; refine wpList_append_own _ rfl _ _ 25 rfl (w.heap.size + 1) 33 i0 _ 5 48 Try.underlying25 hi hz0 hz1 hz2 rfl (by decide) _ _ _ rfl (hS.out.own.alloc _) ⟨wr.heap.size, 0, none⟩ 1 1 (tokCells ⟨endT, ln s q, cl s q⟩) rfl rfl (news_lit wr (tokCells ⟨endT, ln s q, cl s q⟩) 33) (tok_one _) hb1.1 hb1.2 (ow_le hsz _) ?_; intro v5 w5 hown5 hgrow5 _; have HO5 := Lib.hid hown5; have hgr : wr.grownBy w5 (Value.slice va out.length vc).ownBlock := gr_trans (gr_alloc _ _ _) hgrow5; have HF5 := Lib.hid (hS.out.fail.kept hgr HLO'.out); have HB5 := Lib.hid (bl_g hS.out.bel hgr (fun j hj => by have := HLO.out j hj; omega)); clear hown5 hgrow5 hgr f0 f1 f2 z0 z1 z2 hFlt; have f0 := HF5.out.cell 0; have f1 := HF5.out.cell 1; have f2 := HF5.out.cell 2; have z0 := HF5.out.fr 0; have z1 := HF5.out.fr 1; have z2 := HF5.out.fr 2; have hFlt := HF5.out.lt))
        (try simp only [Exit.inBlock, Exit.then])
        have HO : SLN 5 w5 v5 (tokRows (out ++ [⟨endT, ln s q, cl s q⟩])) := SLN.own (n := out.length + 1) (by simpa [tokRows] using HO5.out) (by simp [tokRows]) (tokRows_len _) hb1.1
        have hgl : v5.ownBlock ≠ some w.heap.size := fun e => by have := ow_lo HO5.out _ e; omega
        refine bodyPost_ret (v := .tuple #[v5, .agg #[.int .i64 0, .int .i64 0, .int .i64 0]]) ?_ rfl ⟨v5, ?_, ?_, ?_⟩
        · rw [results_tmp_cell rfl]; go_simp
        · rw [HAe.out]
        · rw [HAe.out]
          exact ((HO.kept (gr_set _ _ _ _) (fun j hj => by rw [← hj]; exact hgl)).kept (gr_set _ _ _ _) (fun j hj => by rw [← hj]; exact hgl)).kept (gr_set _ _ _ _) (fun j hj => by rw [← hj]; exact hgl)
        · exact bl_s (bl_s (bl_s HB5.out _ _) _ _) _ _
end Go.Proofs.Ytmelilppeikdiaa
