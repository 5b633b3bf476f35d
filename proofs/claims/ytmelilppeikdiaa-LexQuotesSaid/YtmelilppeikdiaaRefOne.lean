/- Contract of clewref09.one. -/
import Derived.Test.YtmelilppeikdiaaRefText
import Derived.Test.YtmelilppeikdiaaToken
import Derived.Test.YtmelilppeikdiaaMem
namespace Go.Proofs.Ytmelilppeikdiaa
open Go.RowKit Go.PlainAid
set_option linter.unusedVariables false
set_option linter.unusedSimpArgs false

theorem results_cell_tmp3 {fn : Func} {p a b c : Tmp} {ty : TypeId} (h : fn.results = #[.cell p ty, .tmp a, .tmp b, .tmp c]) (tmps : Array Value) (P : Program) (w : World) :
    (results fn tmps).run P w = ((asAddr (tmps.getD p undef)).run P w).andThen fun ad w₁ => ((loadVar ty ad).run P w₁).andThen fun x w₂ => .ok (.tuple #[x, tmps.getD a undef, tmps.getD b undef, tmps.getD c undef]) w₂ := by
  simp only [results, h]
  simp [Sem.run_bind, Result.andThen]

theorem rowP_name : rowP true = cName := by
  funext c; simp only [rowP, cName, Bool.true_and]
  cases digitB c <;> cases smallB c <;> rfl
theorem rowP_digit : rowP false = digitB := by funext c; simp [rowP]
theorem keyL_len {l : List UInt8} (h : keyL l = true) : l.length ≤ 24 := by
  have hk := keyL_ref l
  rw [h] at hk
  have hall : ∀ x ∈ keysW ++ dirsW, x.length ≤ 24 := by decide +kernel
  refine hall l ?_
  rw [idxW_mem, idxW_mem] at hk
  simpa using hk.symm

/-- What one answers. -/
def OneP (i : Nat) (T : TK) (v : Value) (to er wh : Int) : Prop :=
  (T.err = 0 ∧ v = tokV T ∧ to = ((i + T.len : Nat) : Int) ∧ er = 0) ∨
  (T.err ≠ 0 ∧ (∃ k t n, v = .agg #[.int .i64 k, .string t, .int .i64 n, .int .i64 0, .int .i64 0]) ∧ er = T.err ∧ wh = ((i + T.off : Nat) : Int))

theorem textL_kind : ∀ (l out : List UInt8) (j : Nat), (textL l out j).kind = 3 ∧ (textL l out j).num = 0
  | [], out, j => by simp [textL_nil]
  | b :: t, out, j => by
    rw [textL_cons]
    split
    · exact ⟨rfl, rfl⟩
    split
    · split <;> exact ⟨rfl, rfl⟩
    split
    · exact ⟨rfl, rfl⟩
    split
    · cases t with
      | nil => exact ⟨rfl, rfl⟩
      | cons c t' =>
        rw [textM]
        split
        · exact textL_kind t' _ _
        · split
          · exact textL_kind t' _ _
          · exact ⟨rfl, rfl⟩
    · exact textL_kind t _ _

set_option maxRecDepth 100000 in
set_option maxHeartbeats 4000000 in
theorem refOne (s : ByteArray) (i : Nat) (w : World) (hi : i < s.size) (hs : s.size ≤ 1000000) :
    Calls Try.prog 27 #[.string s, .int .i64 i] w fun e w' => ∃ v to er wh, e = .returned (.tuple #[v, .int .i64 to, .int .i64 er, .int .i64 wh]) ∧ OneP i (oneL (sfx s i)) v to er wh ∧ Below w.heap.size w w' := by
  have hb := get_bt s
  by_cases h34 : bt s i = 34
  · have HO := Lib.hid (one_text s i h34)
    have HT := refText9 s i
    obtain ⟨T, hT⟩ : ∃ T, textL (sfx s (i + 1)) [] 1 = T := ⟨_, rfl⟩
    have HTK : Value.agg #[.int .i64 3, .string (mkB T.text), .int .i64 0, .int .i64 0, .int .i64 0] = tokV T := by
      have := textL_kind (sfx s (i + 1)) [] 1
      rw [hT] at this
      rw [tokV, this.1, this.2]
    rw [hT] at HO HT
    clear hT
    by_cases hT0 : T.err = 0
    · have HR : Hid (textR i T = .tuple #[.string (mkB T.text), .int .i64 ((i + T.len : Nat) : Int), .int .i64 0, .int .i64 0]) := Lib.hid (by rw [textR, if_pos hT0])
      have HTx := Lib.hid HT
      have HTV : Hid (Value.agg #[.int .i64 3, .string (mkB T.text), .int .i64 0, .int .i64 0, .int .i64 0] = tokV T) := Lib.hid HTK
      have HT0 := Lib.hid hT0
      clear HT hT0 HTK
      go_enter Try.func27, Try.ntmps27
      go_wp2_with (first | (go_at_call 44; refine (HTx.out _ hi hs).mono ?_; rintro e w' ⟨rfl, rfl⟩; rw [HR.out]))
      (try simp only [Exit.inBlock, Exit.then])
      refine bodyPost_ret (v := .tuple #[.agg #[.int .i64 3, .string (mkB T.text), .int .i64 0, .int .i64 0, .int .i64 0], .int .i64 ((i + T.len : Nat) : Int), .int .i64 0, .int .i64 0]) ?_ rfl ⟨_, _, _, _, rfl, ?_, ?_⟩
      · rw [results_cell_tmp3 rfl]; go_simp
      · exact (.inl ⟨by rw [HO.out]; exact HT0.out, by rw [HO.out]; exact HTV.out, by rw [HO.out], rfl⟩)
      · (go_grown <;> exact bl_drewN (bl_a (Below.refl _ _) _) _)
    · have HR : Hid (textR i T = .tuple #[.string ⟨#[]⟩, .int .i64 0, .int .i64 T.err, .int .i64 ((i + T.off : Nat) : Int)]) := Lib.hid (by rw [textR, if_neg hT0])
      have HTx := Lib.hid HT
      have HT0 := Lib.hid hT0
      clear HT hT0 HTK
      go_enter Try.func27, Try.ntmps27
      go_wp2_with (first | (go_at_call 44; refine (HTx.out _ hi hs).mono ?_; rintro e w' ⟨rfl, rfl⟩; rw [HR.out]))
      (try simp only [Exit.inBlock, Exit.then])
      refine bodyPost_ret (v := .tuple #[.agg #[.int .i64 3, .string ⟨#[]⟩, .int .i64 0, .int .i64 0, .int .i64 0], .int .i64 0, .int .i64 T.err, .int .i64 ((i + T.off : Nat) : Int)]) ?_ rfl ⟨_, _, _, _, rfl, ?_, ?_⟩
      · rw [results_cell_tmp3 rfl]; go_simp
      · exact (.inr ⟨by rw [HO.out]; exact HT0.out, ⟨_, _, _, rfl⟩, by rw [HO.out], by rw [HO.out]⟩)
      · (go_grown <;> exact bl_drewN (bl_a (Below.refl _ _) _) _)
  · have h34' : (bt s i == 34) = false := by simp [h34]
    cases hd : digitB (bt s i) with
    | true =>
      have HO := Lib.hid (one_num s i hd)
      have HD := Lib.hid hd
      clear hd h34
      obtain ⟨n, hn⟩ : ∃ n, n = runL digitB (sfx s i) := ⟨_, rfl⟩
      have HN := Lib.hid hn
      have hnle := runL_le digitB (sfx s i)
      rw [← hn, sfx_len] at hnle
      clear hn
      have HL : Hid ((numT (sfx s i)).len = n ∧ (numT (sfx s i)).off = 0 ∧ (numT (sfx s i)).text = [] ∧ (numT (sfx s i)).kind = 2) := Lib.hid (by rw [HN.out]; unfold numT; split <;> exact ⟨rfl, rfl, rfl, rfl⟩)
      have hrow : Hid (∀ w : World, Calls Try.prog 46 #[.string s, .int .i64 i, .bool false] w fun e w' => e = .returned (.int .i64 ((i + n : Nat) : Int)) ∧ w = w') := Lib.hid (fun w => by have := refRow s i false w (by omega) hs; rw [rowP_digit, ← HN.out] at this; exact this)
      obtain ⟨T, hT⟩ : ∃ T, numT (sfx s i) = T := ⟨_, rfl⟩
      have hnum := fun w => refNum9 s i n w hi hs HD.out HN.out
      rw [hT] at HO HL hnum
      have HNum := Lib.hid hnum
      clear hnum hT
      have hfin : OneP i (oneL (sfx s i)) (.agg #[.int .i64 2, .string ⟨#[]⟩, .int .i64 T.num, .int .i64 0, .int .i64 0]) ((i + n : Nat) : Int) T.err i := by
        rw [HO.out]
        obtain ⟨l1, l2, l3, l4⟩ := HL.out
        by_cases h0 : T.err = 0
        · exact .inl ⟨h0, by rw [tokV, l3, l4]; rfl, by rw [l1], h0⟩
        · exact .inr ⟨h0, ⟨_, _, _, rfl⟩, rfl, by rw [l2]; rfl⟩
      have HF := Lib.hid hfin
      clear hfin
      go_enter Try.func27, Try.ntmps27
      go_wp2_with (first
        | (go_at_call 45; refine (refDigit _ _).mono ?_; rintro e w' ⟨rfl, rfl⟩; rw [HD.out])
        | (go_at_call 46; refine (hrow.out _).mono ?_; rintro e w' ⟨rfl, rfl⟩)
        | (go_at_call 47; refine (HNum.out _).mono ?_; rintro e w' ⟨rfl, rfl⟩))
      (try simp only [Exit.inBlock, Exit.then])
      refine bodyPost_ret (v := .tuple #[.agg #[.int .i64 2, .string ⟨#[]⟩, .int .i64 T.num, .int .i64 0, .int .i64 0], .int .i64 ((i + n : Nat) : Int), .int .i64 T.err, .int .i64 i]) ?_ rfl ⟨_, _, _, _, rfl, ?_, ?_⟩
      · rw [results_cell_tmp3 rfl]; go_simp
      · exact HF.out
      · (go_grown <;> exact bl_drewN (bl_a (Below.refl _ _) _) _)
    | false =>
      cases hw : smallB (bt s i) with
      | true =>
        have HO := Lib.hid (one_word s i hw)
        have HD := Lib.hid hd
        have HW := Lib.hid hw
        clear hd h34 hw
        obtain ⟨n, hn⟩ : ∃ n, n = runL cName (sfx s i) := ⟨_, rfl⟩
        have HN := Lib.hid hn
        have hnle := runL_le cName (sfx s i)
        rw [← hn] at hnle
        have hsz := take_len hnle
        rw [sfx_len] at hnle
        clear hn
        have hrow : Hid (∀ w : World, Calls Try.prog 46 #[.string s, .int .i64 i, .bool true] w fun e w' => e = .returned (.int .i64 ((i + n : Nat) : Int)) ∧ w = w') := Lib.hid (fun w => by have := refRow s i true w (by omega) hs; rw [rowP_name, ← HN.out] at this; exact this)
        obtain ⟨B, hB⟩ : ∃ B, mkB ((sfx s i).take n) = B := ⟨_, rfl⟩
        have hext : Hid (s.extract i (i + n) = B) := Lib.hid (by rw [ext_sfx, hB])
        have hBt : (sfx s i).take n = B.data.toList := by rw [← hB]; rfl
        have hBe := mkB_of B
        have hT : wordT (sfx s i) = (if keyL B.data.toList = true then ⟨4, B.data.toList, 0, n, 0, 0⟩ else if 24 < n then ⟨1, B.data.toList, 0, n, 9, 0⟩ else ⟨1, B.data.toList, 0, n, 0, 0⟩) := by
          unfold wordT; rw [← HN.out, hBt]
        have hkl : keyL B.data.toList = true → n ≤ 24 := fun h => by have := keyL_len h; rw [← hBt, List.length_take] at this; have hn2 := HN.out; have := runL_le cName (sfx s i); omega
        rw [hB] at hsz
        obtain ⟨q, hq⟩ : ∃ q, i + n = q := ⟨_, rfl⟩
        have hqs : q ≤ s.size := by omega
        have hiq : i ≤ q := by omega
        rw [hq] at hrow hext
        have HQ := Lib.hid hq
        have HBe := Lib.hid hBe
        have HKey := Lib.hid (refKey B)
        cases hk : keyL B.data.toList with
        | true =>
          have hn24 := hkl hk
          have hTE := hT.trans (if_pos hk)
          have hk' := fun w => refKey B w
          rw [hk] at hk'
          have HK := Lib.hid hk'
          have hfin : OneP i (oneL (sfx s i)) (.agg #[.int .i64 4, .string B, .int .i64 0, .int .i64 0, .int .i64 0]) q 0 0 := by
            rw [HO.out, hTE]
            exact .inl ⟨rfl, by rw [tokV, HBe.out], by rw [hq], rfl⟩
          have HF := Lib.hid hfin
          clear hfin hk' hTE hk hkl hT hBt hBe hB hq
          go_enter Try.func27, Try.ntmps27
          go_wp2_with (first
            | (go_at_call 45; refine (refDigit _ _).mono ?_; rintro e w' ⟨rfl, rfl⟩; rw [HD.out])
            | (go_at_call 48; refine (refSmall _ _).mono ?_; rintro e w' ⟨rfl, rfl⟩; rw [HW.out])
            | (go_at_call 46; refine (hrow.out _).mono ?_; rintro e w' ⟨rfl, rfl⟩)
            | (go_at_call 10; rw [hext.out]; refine (HK.out _).mono ?_; rintro e w' ⟨rfl, rfl⟩))
          try rw [hext.out]
          (try simp only [Exit.inBlock, Exit.then])
          refine bodyPost_ret (v := .tuple #[.agg #[.int .i64 4, .string B, .int .i64 0, .int .i64 0, .int .i64 0], .int .i64 q, .int .i64 0, .int .i64 0]) ?_ rfl ⟨_, _, _, _, rfl, ?_, ?_⟩
          · rw [results_cell_tmp3 rfl]; go_simp
          · exact HF.out
          · (go_grown <;> exact bl_drewN (bl_a (Below.refl _ _) _) _)
        | false =>
          have hk' := fun w => refKey B w
          rw [hk] at hk'
          have HK := Lib.hid hk'
          have hT2 := hT.trans (if_neg (by simp [hk]))
          by_cases h24 : 24 < n
          · have hTE := hT2.trans (if_pos h24)
            have hfin : OneP i (oneL (sfx s i)) (.agg #[.int .i64 1, .string B, .int .i64 0, .int .i64 0, .int .i64 0]) q 9 i := by
              rw [HO.out, hTE]
              exact .inr ⟨by show (9 : Int) ≠ 0; decide, ⟨_, _, _, rfl⟩, rfl, by simp⟩
            have HF := Lib.hid hfin
            clear hfin hk' hTE hk hkl hT hT2 hBt hBe hB hq
            go_enter Try.func27, Try.ntmps27
            go_wp2_with (first
              | (go_at_call 45; refine (refDigit _ _).mono ?_; rintro e w' ⟨rfl, rfl⟩; rw [HD.out])
              | (go_at_call 48; refine (refSmall _ _).mono ?_; rintro e w' ⟨rfl, rfl⟩; rw [HW.out])
              | (go_at_call 46; refine (hrow.out _).mono ?_; rintro e w' ⟨rfl, rfl⟩)
              | (go_at_call 10; rw [hext.out]; refine (HK.out _).mono ?_; rintro e w' ⟨rfl, rfl⟩))
            try rw [hext.out]
            (try simp only [Exit.inBlock, Exit.then])
            refine bodyPost_ret (v := .tuple #[.agg #[.int .i64 1, .string B, .int .i64 0, .int .i64 0, .int .i64 0], .int .i64 q, .int .i64 9, .int .i64 i]) ?_ rfl ⟨_, _, _, _, rfl, ?_, ?_⟩
            · rw [results_cell_tmp3 rfl]; go_simp
            · exact HF.out
            · (go_grown <;> exact bl_drewN (bl_a (Below.refl _ _) _) _)
          · have hTE := hT2.trans (if_neg h24)
            have hfin : OneP i (oneL (sfx s i)) (.agg #[.int .i64 1, .string B, .int .i64 0, .int .i64 0, .int .i64 0]) q 0 0 := by
              rw [HO.out, hTE]
              exact .inl ⟨rfl, by rw [tokV, HBe.out], by rw [hq], rfl⟩
            have HF := Lib.hid hfin
            clear hfin hk' hTE hk hkl hT hT2 hBt hBe hB hq
            go_enter Try.func27, Try.ntmps27
            go_wp2_with (first
              | (go_at_call 45; refine (refDigit _ _).mono ?_; rintro e w' ⟨rfl, rfl⟩; rw [HD.out])
              | (go_at_call 48; refine (refSmall _ _).mono ?_; rintro e w' ⟨rfl, rfl⟩; rw [HW.out])
              | (go_at_call 46; refine (hrow.out _).mono ?_; rintro e w' ⟨rfl, rfl⟩)
              | (go_at_call 10; rw [hext.out]; refine (HK.out _).mono ?_; rintro e w' ⟨rfl, rfl⟩))
            try rw [hext.out]
            (try simp only [Exit.inBlock, Exit.then])
            refine bodyPost_ret (v := .tuple #[.agg #[.int .i64 1, .string B, .int .i64 0, .int .i64 0, .int .i64 0], .int .i64 q, .int .i64 0, .int .i64 0]) ?_ rfl ⟨_, _, _, _, rfl, ?_, ?_⟩
            · rw [results_cell_tmp3 rfl]; go_simp
            · exact HF.out
            · (go_grown <;> exact bl_drewN (bl_a (Below.refl _ _) _) _)
      | false =>
        have HO := Lib.hid (one_sign s i h34 hd hw)
        have HD := Lib.hid hd
        have HW := Lib.hid hw
        clear hd h34 hw
        have hsl := signL_le (l := sfx s i)
        rw [sfx_len] at hsl
        have HSg := Lib.hid (fun w => refSign s i w hi hs)
        by_cases h0 : signL (sfx s i) = 0
        · have hfin : OneP i (oneL (sfx s i)) (.agg #[.int .i64 0, .string ⟨#[]⟩, .int .i64 0, .int .i64 0, .int .i64 0]) 0 13 i := by
            rw [HO.out, signT, if_pos h0]
            exact .inr ⟨by decide, ⟨_, _, _, rfl⟩, rfl, by simp⟩
          have HF := Lib.hid hfin
          have H0 := Lib.hid h0
          clear hfin h0 hsl
          go_enter Try.func27, Try.ntmps27
          go_wp2_with (first
            | (go_at_call 45; refine (refDigit _ _).mono ?_; rintro e w' ⟨rfl, rfl⟩; rw [HD.out])
            | (go_at_call 48; refine (refSmall _ _).mono ?_; rintro e w' ⟨rfl, rfl⟩; rw [HW.out])
            | (go_at_call 49; refine (HSg.out _).mono ?_; rintro e w' ⟨rfl, nn, rfl⟩; (rw [H0.out])))
          (try simp only [Exit.inBlock, Exit.then])
          refine bodyPost_ret (v := .tuple #[.agg #[.int .i64 0, .string ⟨#[]⟩, .int .i64 0, .int .i64 0, .int .i64 0], .int .i64 0, .int .i64 13, .int .i64 i]) ?_ rfl ⟨_, _, _, _, rfl, ?_, ?_⟩
          · rw [results_cell_tmp3 rfl]; go_simp
          · exact HF.out
          · (go_grown <;> exact bl_drewN (bl_a (Below.refl _ _) _) _)
        · obtain ⟨n, hn⟩ : ∃ n, signL (sfx s i) = n := ⟨_, rfl⟩
          have hfin : OneP i (oneL (sfx s i)) (.agg #[.int .i64 5, .string (s.extract i (i + n)), .int .i64 0, .int .i64 0, .int .i64 0]) ((i + n : Nat) : Int) 0 0 := by
            rw [HO.out, signT, if_neg h0, hn]
            exact .inl ⟨rfl, by rw [tokV, ext_sfx], rfl, rfl⟩
          have HF := Lib.hid hfin
          have hn0 : (((n : Nat) : Int) == 0) = false := by simp; omega
          have hn0' : 0 < n := by omega
          rw [hn] at hsl
          have H0 := Lib.hid hn
          clear hfin h0 hn
          go_enter Try.func27, Try.ntmps27
          go_wp2_with (first
            | (go_at_call 45; refine (refDigit _ _).mono ?_; rintro e w' ⟨rfl, rfl⟩; rw [HD.out])
            | (go_at_call 48; refine (refSmall _ _).mono ?_; rintro e w' ⟨rfl, rfl⟩; rw [HW.out])
            | (go_at_call 49; refine (HSg.out _).mono ?_; rintro e w' ⟨rfl, nn, rfl⟩; (rw [H0.out])))
          (try simp only [Exit.inBlock, Exit.then])
          refine bodyPost_ret (v := .tuple #[.agg #[.int .i64 5, .string (s.extract i (i + n)), .int .i64 0, .int .i64 0, .int .i64 0], .int .i64 ((i + n : Nat) : Int), .int .i64 0, .int .i64 0]) ?_ rfl ⟨_, _, _, _, rfl, ?_, ?_⟩
          · rw [results_cell_tmp3 rfl]; go_simp
          · exact HF.out
          · (go_grown <;> exact bl_drewN (bl_a (Below.refl _ _) _) _)
end Go.Proofs.Ytmelilppeikdiaa
