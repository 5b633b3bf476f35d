/- The walks of clewlaw35.DictFinds and clewlaw35.DictDirs. -/
import Derived.Test.YtlkdphbgephfiaaDictAwake
namespace Go.Proofs.Ytlkdphbgephfiaa
open Go.RowKit Go.PlainAid
set_option linter.unusedVariables false
set_option linter.unusedSimpArgs false

theorem opens_en : OpensN Try.prog 51 Cd.en := fun enc w base spare held fuel cs d h hn => by
  obtain ⟨h1, h2⟩ := near_fields Try.underlying51 (by kernel_rfl) (by kernel_rfl) h hn
  obtain ⟨c0, c1, rfl⟩ : ∃ c0 c1, cs = [c0, c1] := by
    match cs, h1 with
    | [c0, c1], _ => exact ⟨_, _, rfl⟩
  obtain ⟨x0, y0⟩ := nearN_one (c := Cd.str) 0 _ h2 rfl (by simp) (Opens.n (opens_str Try.underlying9))
  obtain ⟨x1, y1⟩ := nearN_one (c := Cd.i) 1 _ h2 rfl (by simp) (Opens.n (opens_int Try.underlying3))
  refine ⟨⟨x0, x1⟩, ?_, y0.2, y1.2⟩
  have e0 := y0.1
  have e1 := y1.1
  simp at e0 e1
  rw [e0, e1]; rfl
theorem opens_ens : OpensN Try.prog 32 Cd.en.sq := opensN_sq Try.underlying32 (by kernel_rfl) (by decide) (of_decide_eq_true (by kernel_rfl)) opens_en
theorem en_args {H : Type} {enc : TypeId × Value → H} {w : World} {base : Nat} {spare : Nat → Bool} {held : Bool} {v : Value} {d : DataW H} {p : List MemPlace} (h : DataW.Trod enc Try.prog w base spare held 32 v d p) (hn : Near Try.prog 32 d) (hv : v.cells.toList = [v]) : ∃ D, Reads Cd.en.seq w v D := by
  obtain ⟨fuel, hf⟩ := h
  obtain ⟨D, hD⟩ := opens_ens enc w base spare held fuel _ _ hf hn
  rw [hv] at hD
  exact ⟨D, hD.1⟩
set_option maxRecDepth 100000 in
set_option maxHeartbeats 8000000 in
theorem walkFinds35 (v : Value) (D : List EnC) (s : ByteArray) (w : World) (hv : Reads Cd.en.seq w v D) :
    Calls Try.prog 4 #[v, .string s] w fun e w' => e = .returned (.bool true) ∧ Below w.heap.size w w' := by
  have HV := Lib.hid hv
  obtain ⟨a0, c0, hv0, hc0, hm0⟩ := hv.len
  subst hv0
  unfold maxLen at hm0
  clear hv
  by_cases hl : D.length ≤ 500
  · by_cases hs : s.size ≤ 2000
    · have hsm : s.size ≤ maxLen := by unfold maxLen; omega
      have HRi := Lib.hid (refRising _ D w HV.out)
      have HF1 := Lib.hid (fun w h hr => dictFind (.slice a0 D.length c0) D s w h hr (by omega) hsm)
      have HF2 := Lib.hid (fun w h => refFind35 (.slice a0 D.length c0) D s w h hsm)
      have HT1 := Lib.hid (fun w h hr => dictBits (.slice a0 D.length c0) D s w h hr (by omega) hsm)
      have HT2 := Lib.hid (fun w h => refBits35 (.slice a0 D.length c0) D s w h hsm)
      generalize findE D (keyW s.data.toList) = n1 at HF1 HF2
      generalize bitsE D (keyW s.data.toList) = n2 at HT1 HT2
      clear hsm
      go_enter Try.func4, Try.ntmps4
      go_wp2_with fail
      refine HRi.out.mono ?_
      rintro e w1 ⟨b, rfl, hb, hb1⟩
      have HB1 := Lib.hid hb1
      have HV1 := Lib.hid (HV.out.below hb1)
      have HBb := Lib.hid hb
      clear hb hb1
      cases b with
      | false =>
        go_wp2_with (go_at_call 8; refine (awake35 _).mono ?_; rintro e w2 ⟨rfl, hb2⟩; have HB2 := Lib.hid (bl_then HB1.out hb2); clear hb2)
        go_ret
        exact ⟨rfl, HB2.out⟩
      | true =>
        have HR := Lib.hid (HBb.out rfl)
        clear HBb
        go_wp2_with fail
        refine (HF1.out _ HV1.out HR.out).mono ?_
        rintro e w2 ⟨rfl, hb2⟩
        have HB2 := Lib.hid (bl_then HB1.out hb2)
        have HV2 := Lib.hid (HV1.out.below hb2)
        clear hb2
        go_wp2_with fail
        refine (HF2.out _ HV2.out).mono ?_
        rintro e w3 ⟨rfl, hb3⟩
        have HB3 := Lib.hid (bl_then HB2.out hb3)
        have HV3 := Lib.hid (HV2.out.below hb3)
        clear hb3
        go_wp2_with fail
        refine (HT1.out _ HV3.out HR.out).mono ?_
        rintro e w4 ⟨rfl, hb4⟩
        have HB4 := Lib.hid (bl_then HB3.out hb4)
        have HV4 := Lib.hid (HV3.out.below hb4)
        clear hb4
        go_wp2_with fail
        refine (HT2.out _ HV4.out).mono ?_
        rintro e w5 ⟨rfl, hb5⟩
        have HB5 := Lib.hid (bl_then HB4.out hb5)
        clear hb5
        go_wp2_with (go_at_call 8; refine (awake35 _).mono ?_; rintro e w6 ⟨rfl, hb6⟩; have HB6 := Lib.hid (bl_then HB5.out hb6); clear hb6)
        go_ret
        exact ⟨rfl, HB6.out⟩
    · have HRi := Lib.hid (refRising _ D w HV.out)
      go_enter Try.func4, Try.ntmps4
      go_wp2_with fail
      refine HRi.out.mono ?_
      rintro e w1 ⟨b, rfl, hb, hb1⟩
      have HB1 := Lib.hid hb1
      clear hb hb1
      cases b
      all_goals
        go_wp2_with (go_at_call 8; refine (awake35 _).mono ?_; rintro e w2 ⟨rfl, hb2⟩; have HB2 := Lib.hid (bl_then HB1.out hb2); clear hb2)
        go_ret
        exact ⟨rfl, HB2.out⟩
  · go_enter Try.func4, Try.ntmps4
    go_wp2_with (go_at_call 8; refine (awake35 _).mono ?_; rintro e w2 ⟨rfl, hb2⟩; have HB2 := Lib.hid hb2; clear hb2)
    go_ret
    exact ⟨rfl, HB2.out⟩
theorem and_val (a b : Nat) (ha : a < 64) (hb : b < 64) : bits BinOp.and IntKind.i64 (a : Int) (b : Int) = ((a &&& b : Nat) : Int) := by
  show IntKind.i64.wrap ((BitVec.ofInt 64 (a : Int) &&& BitVec.ofInt 64 (b : Int)).toNat : Int) = _
  have h : a &&& b ≤ a := Nat.and_le_left
  have e : (BitVec.ofInt 64 (a : Int) &&& BitVec.ofInt 64 (b : Int)).toNat = a &&& b := by
    rw [BitVec.toNat_and, BitVec.ofInt_natCast, BitVec.ofInt_natCast, BitVec.toNat_ofNat, BitVec.toNat_ofNat, Nat.mod_eq_of_lt (by omega), Nat.mod_eq_of_lt (by omega)]
  rw [e]
  exact IntWalk.i64_in _ (by omega)
theorem base_dir {k : List UInt8} (h : k ∈ dirsW ++ shortW) : (16, k) ∈ adsP bareT := by
  refine List.mem_append_right _ ?_
  unfold baseA mkA
  rcases List.mem_append.1 h with h | h
  · exact List.mem_append_left _ (List.mem_append_left _ (List.mem_map_of_mem h))
  · exact List.mem_append_left _ (List.mem_append_right _ (List.mem_map_of_mem h))
theorem bare_words : WordsIn bareT := by
  refine ⟨fun x hx => ?_, fun a ha => by cases ha⟩
  simp [bareT, noTh] at hx
  rcases hx with rfl | rfl | rfl
  all_goals exact ⟨fun y hy => (by cases hy), fun y hy => (by cases hy)⟩
theorem bare_dir {k : List UInt8} (h : dirK k ≠ 0) : bits BinOp.and IntKind.i64 (bitsE bareD k) 16 = 16 := by
  have h1 := bitsA_has (base_dir (dirK_mem h))
  have h2 : bitsA (adsP bareT) k < 64 := bitsA_lt (fun a ha => (adsP_ok bare_words a ha).1) k
  rw [bitsE_dict bareD_is, show (16 : Int) = ((16 : Nat) : Int) from rfl, and_val _ _ h2 (by decide), h1]
theorem app_x (s : ByteArray) : (s ++ (⟨#[120]⟩ : ByteArray)).data.toList = s.data.toList ++ [120] := by
  have h : (s ++ (⟨#[120]⟩ : ByteArray)).data = s.data ++ #[120] := by first | rfl | simp
  rw [h]; simp
theorem app_size (s : ByteArray) : (s ++ (⟨#[120]⟩ : ByteArray)).size = s.size + 1 := by
  rw [ByteArray.size_append]; rfl
set_option maxRecDepth 100000 in
set_option maxHeartbeats 8000000 in
theorem walkDirs35 (s : ByteArray) (w : World) :
    Calls Try.prog 5 #[.string s] w fun e w' => e = .returned (.bool true) ∧ Below w.heap.size w w' := by
  by_cases hs : s.size ≤ 2000
  · have hsm : s.size ≤ maxLen := by unfold maxLen; omega
    have HD := Lib.hid (fun w => dictDir s w hsm)
    have HR := Lib.hid (fun w => refDir35 s w hsm)
    have HLo := Lib.hid (fun w => refLower s w hsm)
    have HDl := Lib.hid (fun w => dictDir (lowS s) w (by rw [lowS_size]; exact hsm))
    have ek : keyW (lowS s).data.toList = keyW s.data.toList := by
      have : (lowS s).data.toList = s.data.toList.map lowU := by simp [lowS]
      rw [this, keyW_low]
    rw [ek] at HDl
    have HX := Lib.hid (fun w => dictDir (s ++ ⟨#[120]⟩) w (by rw [app_size]; unfold maxLen; omega))
    rw [app_x] at HX
    have hlong : 9 ≤ s.size → keyW (s.data.toList ++ [120]) = keyW s.data.toList := fun h => keyW_long (by simpa using h) _
    have HTb := Lib.hid (fun w v h => dictBits v bareD s w h bareD_is.1 (by rw [bareD_len]; decide) hsm)
    have hand := @bare_dir (keyW s.data.toList)
    have HX2 : 9 ≤ s.size → Hid (∀ w, Calls Try.prog 17 #[.string (s ++ ⟨#[120]⟩)] w fun e w' => e = .returned (.int .i64 (dirK (keyW s.data.toList))) ∧ Below w.heap.size w w') := fun h => by rw [hlong h] at HX; exact HX
    generalize dirK (keyW s.data.toList) = n at HD HR HDl hand HX2
    generalize bitsE bareD (keyW s.data.toList) = m at HTb hand
    clear hlong HX ek
    by_cases hn : n = 0
    · subst hn
      clear hand HTb
      by_cases h9 : s.size < 9
      · clear HX2
        go_enter Try.func5, Try.ntmps5
        go_wp2_with fail
        refine (HD.out _).mono ?_
        rintro e w1 ⟨rfl, hb1⟩
        have HB1 := Lib.hid hb1
        clear hb1
        go_wp2_with fail
        refine (HR.out _).mono ?_
        rintro e w2 ⟨rfl, hb2⟩
        have HB2 := Lib.hid (bl_then HB1.out hb2)
        clear hb2
        go_wp2_with fail
        refine (HLo.out _).mono ?_
        rintro e w3 ⟨rfl, hb3⟩
        have HB3 := Lib.hid (bl_then HB2.out hb3)
        clear hb3
        go_wp2_with fail
        refine (HDl.out _).mono ?_
        rintro e w4 ⟨rfl, hb4⟩
        have HB4 := Lib.hid (bl_then HB3.out hb4)
        clear hb4
        go_wp2_with fail
        go_wp2_with (go_at_call 8; refine (awake35 _).mono ?_; rintro e w9 ⟨rfl, hb9⟩; have HB9 := Lib.hid (bl_then HB4.out hb9); clear hb9)
        go_ret
        exact ⟨rfl, HB9.out⟩
      · have HX3 := HX2 (by omega)
        clear HX2
        go_enter Try.func5, Try.ntmps5
        go_wp2_with fail
        refine (HD.out _).mono ?_
        rintro e w1 ⟨rfl, hb1⟩
        have HB1 := Lib.hid hb1
        clear hb1
        go_wp2_with fail
        refine (HR.out _).mono ?_
        rintro e w2 ⟨rfl, hb2⟩
        have HB2 := Lib.hid (bl_then HB1.out hb2)
        clear hb2
        go_wp2_with fail
        refine (HLo.out _).mono ?_
        rintro e w3 ⟨rfl, hb3⟩
        have HB3 := Lib.hid (bl_then HB2.out hb3)
        clear hb3
        go_wp2_with fail
        refine (HDl.out _).mono ?_
        rintro e w4 ⟨rfl, hb4⟩
        have HB4 := Lib.hid (bl_then HB3.out hb4)
        clear hb4
        go_wp2_with fail
        refine (HX3.out _).mono ?_
        rintro e w5 ⟨rfl, hb5⟩
        have HB5 := Lib.hid (bl_then HB4.out hb5)
        clear hb5
        go_wp2_with (go_at_call 8; refine (awake35 _).mono ?_; rintro e w9 ⟨rfl, hb9⟩; have HB9 := Lib.hid (bl_then HB5.out hb9); clear hb9)
        go_ret
        exact ⟨rfl, HB9.out⟩
    · have hn0 : (n == 0) = false := by simpa using hn
      have hand2 := hand hn
      clear hn hand
      by_cases h9 : s.size < 9
      · clear HX2
        go_enter Try.func5, Try.ntmps5
        go_wp2_with fail
        refine (HD.out _).mono ?_
        rintro e w1 ⟨rfl, hb1⟩
        have HB1 := Lib.hid hb1
        clear hb1
        go_wp2_with fail
        refine (HR.out _).mono ?_
        rintro e w2 ⟨rfl, hb2⟩
        have HB2 := Lib.hid (bl_then HB1.out hb2)
        clear hb2
        go_wp2_with fail
        refine (HLo.out _).mono ?_
        rintro e w3 ⟨rfl, hb3⟩
        have HB3 := Lib.hid (bl_then HB2.out hb3)
        clear hb3
        go_wp2_with fail
        refine (HDl.out _).mono ?_
        rintro e w4 ⟨rfl, hb4⟩
        have HB4 := Lib.hid (bl_then HB3.out hb4)
        clear hb4
        go_wp2_with fail
        refine (bare35 _).mono ?_
        rintro e w6 ⟨k, rfl, ht, hb6⟩
        have HT6 := Lib.hid ht
        have HB6 := Lib.hid (bl_then HB4.out hb6)
        clear ht hb6
        go_wp2_with fail
        refine (dictMake _ _ _ HT6.out bare_few).mono ?_
        rintro e w7 ⟨v, D, rfl, hd, hv, hb7⟩
        obtain rfl : D = bareD := dict_eq hd bareD_is (List.Perm.refl _)
        have HV7 := Lib.hid hv
        have HB7 := Lib.hid (bl_then HB6.out hb7)
        clear hd hv hb7
        go_wp2_with fail
        refine (HTb.out _ _ HV7.out).mono ?_
        rintro e w8 ⟨rfl, hb8⟩
        have HB8 := Lib.hid (bl_then HB7.out hb8)
        clear hb8
        go_wp2_with (go_at_call 8; refine (awake35 _).mono ?_; rintro e w9 ⟨rfl, hb9⟩; have HB9 := Lib.hid (bl_then HB8.out hb9); clear hb9)
        go_ret
        exact ⟨rfl, HB9.out⟩
      · have HX3 := HX2 (by omega)
        clear HX2
        go_enter Try.func5, Try.ntmps5
        go_wp2_with fail
        refine (HD.out _).mono ?_
        rintro e w1 ⟨rfl, hb1⟩
        have HB1 := Lib.hid hb1
        clear hb1
        go_wp2_with fail
        refine (HR.out _).mono ?_
        rintro e w2 ⟨rfl, hb2⟩
        have HB2 := Lib.hid (bl_then HB1.out hb2)
        clear hb2
        go_wp2_with fail
        refine (HLo.out _).mono ?_
        rintro e w3 ⟨rfl, hb3⟩
        have HB3 := Lib.hid (bl_then HB2.out hb3)
        clear hb3
        go_wp2_with fail
        refine (HDl.out _).mono ?_
        rintro e w4 ⟨rfl, hb4⟩
        have HB4 := Lib.hid (bl_then HB3.out hb4)
        clear hb4
        go_wp2_with fail
        refine (HX3.out _).mono ?_
        rintro e w5 ⟨rfl, hb5⟩
        have HB5 := Lib.hid (bl_then HB4.out hb5)
        clear hb5
        go_wp2_with fail
        refine (bare35 _).mono ?_
        rintro e w6 ⟨k, rfl, ht, hb6⟩
        have HT6 := Lib.hid ht
        have HB6 := Lib.hid (bl_then HB5.out hb6)
        clear ht hb6
        go_wp2_with fail
        refine (dictMake _ _ _ HT6.out bare_few).mono ?_
        rintro e w7 ⟨v, D, rfl, hd, hv, hb7⟩
        obtain rfl : D = bareD := dict_eq hd bareD_is (List.Perm.refl _)
        have HV7 := Lib.hid hv
        have HB7 := Lib.hid (bl_then HB6.out hb7)
        clear hd hv hb7
        go_wp2_with fail
        refine (HTb.out _ _ HV7.out).mono ?_
        rintro e w8 ⟨rfl, hb8⟩
        have HB8 := Lib.hid (bl_then HB7.out hb8)
        clear hb8
        go_wp2_with (go_at_call 8; refine (awake35 _).mono ?_; rintro e w9 ⟨rfl, hb9⟩; have HB9 := Lib.hid (bl_then HB8.out hb9); clear hb9)
        go_ret
        exact ⟨rfl, HB9.out⟩
  · go_enter Try.func5, Try.ntmps5
    go_wp2_with (go_at_call 8; refine (awake35 _).mono ?_; rintro e w2 ⟨rfl, hb2⟩; have HB2 := Lib.hid hb2; clear hb2)
    go_ret
    exact ⟨rfl, HB2.out⟩
end Go.Proofs.Ytlkdphbgephfiaa
