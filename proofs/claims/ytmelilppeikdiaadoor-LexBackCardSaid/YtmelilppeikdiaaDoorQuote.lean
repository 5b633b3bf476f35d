/- lex.Quote and clewref04.IsText. -/
import Derived.Test.YtmelilppeikdiaaDoorBuilder
import Derived.Test.YtmelilppeikdiaaDoorQuotePlain
namespace Go.Proofs.YtmelilppeikdiaaDoor
open Go.RowKit Go.PlainAid
set_option linter.unusedVariables false
set_option linter.unusedSimpArgs false

theorem bc_snoc (L : List UInt8) (x : UInt8) (c : Int) (h : iv x = c) : Lib.byteCells L ++ [.int .u8 c] = Lib.byteCells (L ++ [x]) := by
  subst h; simp [Lib.byteCells, iv]
theorem bc_app (L M : List UInt8) : Lib.byteCells L ++ Lib.byteCells M = Lib.byteCells (L ++ M) := by simp [Lib.byteCells]
theorem bc_len (L : List UInt8) : (Lib.byteCells L).length = L.length := Lib.byteCells_length L

/-- What holds at the head of Quote's loop. -/
structure QuS (w wr : World) (L : List UInt8) : Prop where
  bu : Lib.IsBuilder 42 5 w.heap.size w.heap.size (Lib.byteCells L) wr
  bel : Below w.heap.size w wr
theorem quByte (w wr : World) (L : List UInt8) (x : UInt8) (c : Int) (h : QuS w wr L) (hx : iv x = c) (hl : L.length ≤ 1000000) :
    Calls Tryd.prog 15 #[.pointer (some ⟨w.heap.size, 0, none⟩), .int .u8 c] wr fun e w' => e = .returned .nilIface ∧ QuS w w' (L ++ [x]) :=
  (buByte w.heap.size w.heap.size (Lib.byteCells L) c wr h.bu (by rw [bc_len]; omega) h.bel.size).mono fun e w' ⟨he, hb, hB⟩ =>
    ⟨he, .inr (by rw [← bc_snoc L x c hx]; exact hb), h.bel.trans hB⟩
theorem quString (w wr : World) (L M : List UInt8) (h : QuS w wr L) (hl : L.length ≤ 1000000) (hm : M.length ≤ 1000000) :
    Calls Tryd.prog 16 #[.pointer (some ⟨w.heap.size, 0, none⟩), .string ⟨M.toArray⟩] wr fun e w' => ∃ n : Int, e = .returned (.tuple #[.int .i64 n, .nilIface]) ∧ QuS w w' (L ++ M) :=
  (buString w.heap.size w.heap.size (Lib.byteCells L) ⟨M.toArray⟩ wr h.bu (by have : (ByteArray.mk M.toArray).size = M.length := by show M.toArray.size = _; simp
                                                                              rw [bc_len, this]; omega) h.bel.size).mono fun e w' ⟨he, hb, hB⟩ =>
    ⟨_, he, .inr (by rw [← bc_app]; exact hb), h.bel.trans hB⟩

theorem qL_snoc (s : ByteArray) (k : Nat) (h : k < s.data.toList.length) : qL (s.data.toList.take (k + 1)) = qL (s.data.toList.take k) ++ qB s.data.toList[k] := by
  rw [List.take_succ_eq_append_getElem h]; simp [qL]

set_option maxHeartbeats 4000000 in
theorem lexQuote (s : ByteArray) (w : World) (hs : s.size ≤ 100000) :
    Calls Tryd.prog 8 #[.string s] w fun e w' => e = .returned (.string (mkB (quoteL s.data.toList))) ∧ Below w.heap.size w w' := by
  have hb := get_bt s
  have HB0 : Hid (QuS w (w.alloc (.cells #[.pointer none, .slice none 0 0] 42)) []) := Lib.hid ⟨Lib.fresh_isBuilder _ _ w, bl_a (Below.refl _ _) _⟩
  go_enter Tryd.func8, Tryd.ntmps8
  go_wp2_with fail
  refine (quByte w _ [] 34 34 HB0.out (by decide) (by simp)).mono ?_
  rintro e w1 ⟨rfl, h1⟩
  have H1 := Lib.hid h1
  clear h1
  go_wp2_with fail
  go_loopw [8] (fun p wr => ∃ k : Nat, k ≤ s.size ∧ p = .int .i64 k ∧ Hid (QuS w wr (34 :: qL (s.data.toList.take k)))) (fun p _ => s.size - (intOf p).toNat)
  case atStart => exact ⟨0, by omega, rfl, H1⟩
  case round =>
    obtain ⟨k, hk, rfl, hQ⟩ := hrel
    have hlen : (34 :: qL (s.data.toList.take k)).length ≤ 300000 := by
      have := (qL_len (s.data.toList.take k)).2
      simp at this ⊢; omega
    by_cases hks : k < s.size
    · have hkl : k < s.data.toList.length := by simpa using hks
      have HQ := Lib.hid (qL_snoc s k hkl)
      obtain ⟨x, hx⟩ : ∃ x, s.data.toList[k] = x := ⟨_, rfl⟩
      have hxv : iv x = bt s k := by rw [bt_at' s k hkl, hx]; rfl
      rw [hx] at HQ
      have HXV := Lib.hid hxv
      by_cases h10 : bt s k = 10
      · have hq : qB x = [92, 110] := by unfold qB; rw [if_pos (by rw [hxv]; exact h10)]
        rw [hq] at HQ
        have h10' : (bt s k == 10) = true := by simp [h10]
        clear h10 hq hx hxv hkl
        go_wp2_with fail
        refine (quString w _ (34 :: qL (s.data.toList.take k)) [92, 110] hQ.out (by omega) (by simp)).mono ?_
        rintro e w2 ⟨n, rfl, hQ2⟩
        go_wp2
        go_roundw
        case rel => exact ⟨k + 1, hks, by go_num, Lib.hid (by rw [HQ.out]; simpa using hQ2)⟩
        case measure => simp [intOf]; omega
      · have h10' : (bt s k == 10) = false := by simp [h10]
        by_cases hq2 : bt s k = 34 ∨ bt s k = 92
        · have hq : qB x = [92, x] := by unfold qB; rw [if_neg (by rw [hxv]; exact h10), if_pos (by rw [hxv]; exact hq2)]
          rw [hq] at HQ
          have hlen2 : (34 :: qL (s.data.toList.take k) ++ [92]).length ≤ 300001 := by simp at hlen ⊢; omega
          rcases hq2 with h34 | h92
          · have h34' : (bt s k == 34) = true := by simp [h34]
            clear h10 hq hx hxv hkl h34
            go_wp2_with fail
            refine (quByte w _ (34 :: qL (s.data.toList.take k)) 92 92 hQ.out (by decide) (by omega)).mono ?_
            rintro e w2 ⟨rfl, hQ1⟩
            have HQ1 := Lib.hid hQ1
            clear hQ1
            go_wp2_with fail
            refine (quByte w _ _ x _ HQ1.out HXV.out (by omega)).mono ?_
            rintro e w3 ⟨rfl, hQ2⟩
            go_wp2
            go_roundw
            case rel => exact ⟨k + 1, hks, by go_num, Lib.hid (by rw [HQ.out]; simpa using hQ2)⟩
            case measure => simp [intOf]; omega
          · have h34' : (bt s k == 34) = false := by simp [h92]
            have h92' : (bt s k == 92) = true := by simp [h92]
            clear h10 hq hx hxv hkl h92
            go_wp2_with fail
            refine (quByte w _ (34 :: qL (s.data.toList.take k)) 92 92 hQ.out (by decide) (by omega)).mono ?_
            rintro e w2 ⟨rfl, hQ1⟩
            have HQ1 := Lib.hid hQ1
            clear hQ1
            go_wp2_with fail
            refine (quByte w _ _ x _ HQ1.out HXV.out (by omega)).mono ?_
            rintro e w3 ⟨rfl, hQ2⟩
            go_wp2
            go_roundw
            case rel => exact ⟨k + 1, hks, by go_num, Lib.hid (by rw [HQ.out]; simpa using hQ2)⟩
            case measure => simp [intOf]; omega
        · have hq : qB x = [x] := by unfold qB; rw [if_neg (by rw [hxv]; exact h10), if_neg (by rw [hxv]; exact hq2)]
          rw [hq] at HQ
          have h34' : (bt s k == 34) = false := by simp; omega
          have h92' : (bt s k == 92) = false := by simp; omega
          clear h10 hq2 hq hx hxv hkl
          go_wp2_with fail
          refine (quByte w _ (34 :: qL (s.data.toList.take k)) x _ hQ.out HXV.out (by omega)).mono ?_
          rintro e w2 ⟨rfl, hQ2⟩
          go_wp2
          go_roundw
          case rel => exact ⟨k + 1, hks, by go_num, Lib.hid (by rw [HQ.out]; simpa using hQ2)⟩
          case measure => simp [intOf]; omega
    · have hke : s.data.toList.take k = s.data.toList := List.take_of_length_le (by simp; omega)
      have HK := Lib.hid hke
      clear hke
      go_wp2_with fail
      refine (quByte w _ (34 :: qL (s.data.toList.take k)) 34 34 hQ.out (by decide) (by omega)).mono ?_
      rintro e w2 ⟨rfl, hQ2⟩
      have HQ2 := Lib.hid hQ2
      clear hQ2
      go_wp2_with fail
      refine (Tryd.Builder_String_any w.heap.size w.heap.size _ _ HQ2.out.bu HQ2.out.bel.size).mono ?_
      rintro e w3 ⟨rfl, hb3⟩
      go_wp2
      go_ret
      exact ⟨ret_s (by rw [HK.out]; rfl), HQ2.out.bel.trans hb3⟩

end Go.Proofs.YtmelilppeikdiaaDoor
