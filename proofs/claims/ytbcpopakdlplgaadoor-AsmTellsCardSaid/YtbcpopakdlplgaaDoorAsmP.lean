/- Contract of asm.Print. -/
import Derived.Test.YtbcpopakdlplgaaDoorAsmN
import Derived.Test.YtbcpopakdlplgaaDoorAsmE2
import Derived.Test.YtbcpopakdlplgaaDoorAsmC2
import Derived.Test.YtbcpopakdlplgaaDoorNumText
namespace Go.Proofs.YtbcpopakdlplgaaDoor
open Go.RowKit Go.PlainAid Go.Maps Go.Lib Go.Sort
set_option linter.unusedVariables false
set_option linter.unusedSimpArgs false

/-- An instruction's line. -/
def lineP (x : IN) : List UInt8 := (if isL x = true then [] else [9]) ++ (nmA x.op ++ ((if hasA x.op = true then 32 :: itoa x.arg else []) ++ [10]))
def printP (l : List IN) : List UInt8 := l.flatMap lineP
theorem mk_mkB (l : List UInt8) : mk l = mkB l := rfl
theorem itoa_short {n : Int} (h0 : -9223372036854775808 ≤ n) (h1 : n ≤ 9223372036854775807) : (itoa n).length ≤ 21 := by
  by_cases h : 0 ≤ n
  · rw [itoa_pos n h]
    have := dec_len n.toNat (by omega)
    rw [mk_size] at this; omega
  · have e : n = -((n.natAbs : Nat) : Int) := by omega
    rw [e]
    have := itoa_len n.natAbs (by omega) (by omega)
    rw [mk_size] at this; exact this
theorem line_len {x : IN} (h : InW x) : (lineP x).length ≤ 40 := by
  have h1 := nmA_len x.op
  have h2 := itoa_short h.2.1 h.2.2
  unfold lineP
  split <;> split <;> simp <;> omega
theorem print_snoc {l : List IN} {k : Nat} (h : k < l.length) : printP (l.take (k + 1)) = printP (l.take k) ++ lineP l[k] := by
  unfold printP; rw [List.take_succ_eq_append_getElem h, List.flatMap_append]; simp
theorem print_len {l : List IN} (h : ∀ x ∈ l, InW x) : ∀ k, k ≤ l.length → (printP (l.take k)).length ≤ 40 * k
  | 0, _ => by simp [printP]
  | k + 1, hk => by
    have ih := print_len h k (by omega)
    have := line_len (h l[k] (List.getElem_mem (by omega)))
    rw [print_snoc (by omega), List.length_append]; omega
theorem tab_belowA {P : Program} {w w' : World} {name : String} {k : IntKind} {zs : List Int} (h : Lib.TabIs P w name k zs) (hb : Below w.heap.size w w') : Lib.TabIs P w' name k zs := by
  unfold Lib.TabIs at *
  cases hg : P.globalNamed name with
  | none => simp [World.var?, hg] at h
  | some g =>
    have hlt : g < w.heap.size := by
      unfold World.var? at h
      simp only [hg, Option.bind_some] at h
      rcases Nat.lt_or_ge g w.heap.size with h' | h'
      · exact h'
      · simp [Array.getElem?_eq_none h'] at h
    unfold World.var? at *
    simp only [hg, Option.bind_some] at *
    rw [hb.block g hlt]; exact h

theorem c9 : (⟨#[9]⟩ : ByteArray) = mkB [9] := rfl
theorem c10 : (⟨#[10]⟩ : ByteArray) = mkB [10] := rfl
theorem c32 : (⟨#[32]⟩ : ByteArray) = mkB [32] := rfl
set_option maxRecDepth 100000 in
set_option maxHeartbeats 8000000 in
theorem printC (v : Value) (l : List IN) (w : World) (hr : Reads Cd.ins.seq w v l) (hl : l.length ≤ 10000) (htab : Lib.TabIs Tryd.prog w "internal/strconv.uint64pow10" .u64 Lib.pow10Tab) :
    Calls Tryd.prog 18 #[v] w fun e w' => e = .returned (.string (mkB (printP l))) ∧ Below w.heap.size w w' := by
  obtain ⟨a, c, hv, hcap, _⟩ := hr.len
  subst hv
  have HC := Lib.hid (cells_of hr).1
  have HWF := Lib.hid (ins_wf hr)
  have HTab := Lib.hid htab
  obtain ⟨n, hn⟩ : ∃ n, l.length = n := ⟨_, rfl⟩
  have HN := Lib.hid hn
  rw [hn] at hl hcap ⊢
  clear hr hn htab
  go_enter Tryd.func18, Tryd.ntmps18
  go_wp2
  go_loopw [3, 8] (fun s i wr => ∃ k : Nat, i = .int .i64 k ∧ k ≤ n ∧ s = .string (mkB (printP (l.take k))) ∧ Hid (Below w.heap.size w wr)) (fun _ i _ => n - (RowKit.intOf i).toNat)
  case atStart => exact ⟨0, rfl, Nat.zero_le _, rfl, Lib.hid (Below.refl _ _)⟩
  case round =>
    obtain ⟨k, rfl, hk, rfl, HB⟩ := hrel
    have hpl := print_len HWF.out k (by rw [HN.out]; exact hk)
    obtain ⟨P, hP⟩ : ∃ P, printP (l.take k) = P := ⟨_, rfl⟩
    have HPP := Lib.hid hP
    rw [hP] at hpl ⊢
    have hps : (mkB P).size ≤ 400000 := by rw [mkB_size]; omega
    clear hP
    by_cases hlt : k < n
    · have hkl : k < l.length := by rw [HN.out]; exact hlt
      obtain ⟨b, off, ha, hblt, hw, hx0, hx1⟩ := (HC.out.below HB.out) k hkl
      subst ha
      obtain ⟨x, hx⟩ : ∃ x, l[k] = x := ⟨_, rfl⟩
      rw [hx] at hw hx0 hx1
      have HX := Lib.hid hx
      have hk0 : (0 : Int) ≤ (k : Int) := by omega
      have hk1 : (k : Int) < (n : Int) := by omega
      obtain ⟨N, hN⟩ : ∃ N, nmA x.op = N := ⟨_, rfl⟩
      have HNN := Lib.hid hN
      have hns : (mkB N).size ≤ 9 := by rw [mkB_size, ← hN]; exact nmA_len _
      have HNM := Lib.hid (fun w => nameC x.op w)
      rw [hN] at HNM
      obtain ⟨T, hT⟩ : ∃ T, itoa x.arg = T := ⟨_, rfl⟩
      have HTT := Lib.hid hT
      have hts : (mk T).size ≤ 21 := by rw [mk_size, ← hT]; exact itoa_short hw.2.1 hw.2.2
      have HTX := Lib.hid (fun w h => numText x.arg w hw.2.1 hw.2.2 h)
      rw [hT] at HTX
      clear hN hT hx hw hpl
      cases hL : isL x with
      | true =>
        have hne : (x.op != 38) = false := by unfold isL at hL; simpa using hL
        cases hA : hasA x.op with
        | true =>
          have HHA := Lib.hid (fun w => hasC2 x.op true hA w)
          have HS : Hid (printP (l.take (k + 1)) = P ++ ([] ++ (N ++ ((32 :: T) ++ [10])))) := Lib.hid (by
            have h := print_snoc hkl
            rw [HX.out] at h
            rw [h, HPP.out]; unfold lineP; simp [hL, hA, HNN.out, HTT.out])
          clear hL hA
          go_wp2_with (first | (go_at_call 41; refine (HNM.out _).mono ?_; rintro e w1 ⟨rfl, hb1⟩; have HB1 := Lib.hid (bl_thenA (bl_one wr (.cells #[.int .i64 x.op, .int .i64 x.arg] 37)) hb1); have hk1 := (BK.new wr [.int .i64 x.op, .int .i64 x.arg] 37).below hb1; have z0 := hk1.cell 0; have z1 := hk1.cell 1; simp only [List.getElem?_cons_zero, List.getElem?_cons_succ] at z0 z1; have HK1 := Lib.hid hk1; clear hb1 hk1) | (go_at_call 42; refine (HHA.out _).mono ?_; rintro e w2 ⟨rfl, hb2⟩; have HB2 := Lib.hid (bl_thenA HB1.out hb2); have hk2 := HK1.out.below hb2; have y0 := hk2.cell 0; have y1 := hk2.cell 1; simp only [List.getElem?_cons_zero, List.getElem?_cons_succ] at y0 y1; have HTb := Lib.hid (tab_belowA HTab.out (bl_thenA HB.out HB2.out)); clear hb2 hk2) | (go_at_call 43; refine (HTX.out _ HTb.out).mono ?_; rintro e w3 ⟨rfl, hb3⟩; have HB3 := Lib.hid (bl_thenA HB2.out hb3); clear hb3) | (fail))
          go_roundw
          case rel => exact ⟨k + 1, by go_num, by omega, congrArg Value.string (by rw [HS.out]; simp only [c9, c10, c32, mk_mkB, mkB_app, List.append_assoc, List.nil_append, List.cons_append]), Lib.hid (bl_thenA HB.out HB3.out)⟩
          case measure => simp [RowKit.intOf]; omega
        | false =>
          have HHA := Lib.hid (fun w => hasC2 x.op false hA w)
          have HS : Hid (printP (l.take (k + 1)) = P ++ ([] ++ (N ++ ([] ++ [10])))) := Lib.hid (by
            have h := print_snoc hkl
            rw [HX.out] at h
            rw [h, HPP.out]; unfold lineP; simp [hL, hA, HNN.out, HTT.out])
          clear hL hA
          go_wp2_with (first | (go_at_call 41; refine (HNM.out _).mono ?_; rintro e w1 ⟨rfl, hb1⟩; have HB1 := Lib.hid (bl_thenA (bl_one wr (.cells #[.int .i64 x.op, .int .i64 x.arg] 37)) hb1); have hk1 := (BK.new wr [.int .i64 x.op, .int .i64 x.arg] 37).below hb1; have z0 := hk1.cell 0; have z1 := hk1.cell 1; simp only [List.getElem?_cons_zero, List.getElem?_cons_succ] at z0 z1; have HK1 := Lib.hid hk1; clear hb1 hk1) | (go_at_call 42; refine (HHA.out _).mono ?_; rintro e w2 ⟨rfl, hb2⟩; have HB2 := Lib.hid (bl_thenA HB1.out hb2); have hk2 := HK1.out.below hb2; have y0 := hk2.cell 0; have y1 := hk2.cell 1; simp only [List.getElem?_cons_zero, List.getElem?_cons_succ] at y0 y1; have HTb := Lib.hid (tab_belowA HTab.out (bl_thenA HB.out HB2.out)); clear hb2 hk2) | (go_at_call 43; refine (HTX.out _ HTb.out).mono ?_; rintro e w3 ⟨rfl, hb3⟩; have HB3 := Lib.hid (bl_thenA HB2.out hb3); clear hb3) | (fail))
          go_roundw
          case rel => exact ⟨k + 1, by go_num, by omega, congrArg Value.string (by rw [HS.out]; simp only [c9, c10, c32, mk_mkB, mkB_app, List.append_assoc, List.nil_append, List.cons_append]), Lib.hid (bl_thenA HB.out HB2.out)⟩
          case measure => simp [RowKit.intOf]; omega
      | false =>
        have hne : (x.op != 38) = true := by unfold isL at hL; simpa using hL
        cases hA : hasA x.op with
        | true =>
          have HHA := Lib.hid (fun w => hasC2 x.op true hA w)
          have HS : Hid (printP (l.take (k + 1)) = P ++ ([9] ++ (N ++ ((32 :: T) ++ [10])))) := Lib.hid (by
            have h := print_snoc hkl
            rw [HX.out] at h
            rw [h, HPP.out]; unfold lineP; simp [hL, hA, HNN.out, HTT.out])
          clear hL hA
          go_wp2_with (first | (go_at_call 41; refine (HNM.out _).mono ?_; rintro e w1 ⟨rfl, hb1⟩; have HB1 := Lib.hid (bl_thenA (bl_one wr (.cells #[.int .i64 x.op, .int .i64 x.arg] 37)) hb1); have hk1 := (BK.new wr [.int .i64 x.op, .int .i64 x.arg] 37).below hb1; have z0 := hk1.cell 0; have z1 := hk1.cell 1; simp only [List.getElem?_cons_zero, List.getElem?_cons_succ] at z0 z1; have HK1 := Lib.hid hk1; clear hb1 hk1) | (go_at_call 42; refine (HHA.out _).mono ?_; rintro e w2 ⟨rfl, hb2⟩; have HB2 := Lib.hid (bl_thenA HB1.out hb2); have hk2 := HK1.out.below hb2; have y0 := hk2.cell 0; have y1 := hk2.cell 1; simp only [List.getElem?_cons_zero, List.getElem?_cons_succ] at y0 y1; have HTb := Lib.hid (tab_belowA HTab.out (bl_thenA HB.out HB2.out)); clear hb2 hk2) | (go_at_call 43; refine (HTX.out _ HTb.out).mono ?_; rintro e w3 ⟨rfl, hb3⟩; have HB3 := Lib.hid (bl_thenA HB2.out hb3); clear hb3) | (fail))
          go_roundw
          case rel => exact ⟨k + 1, by go_num, by omega, congrArg Value.string (by rw [HS.out]; simp only [c9, c10, c32, mk_mkB, mkB_app, List.append_assoc, List.nil_append, List.cons_append]), Lib.hid (bl_thenA HB.out HB3.out)⟩
          case measure => simp [RowKit.intOf]; omega
        | false =>
          have HHA := Lib.hid (fun w => hasC2 x.op false hA w)
          have HS : Hid (printP (l.take (k + 1)) = P ++ ([9] ++ (N ++ ([] ++ [10])))) := Lib.hid (by
            have h := print_snoc hkl
            rw [HX.out] at h
            rw [h, HPP.out]; unfold lineP; simp [hL, hA, HNN.out, HTT.out])
          clear hL hA
          go_wp2_with (first | (go_at_call 41; refine (HNM.out _).mono ?_; rintro e w1 ⟨rfl, hb1⟩; have HB1 := Lib.hid (bl_thenA (bl_one wr (.cells #[.int .i64 x.op, .int .i64 x.arg] 37)) hb1); have hk1 := (BK.new wr [.int .i64 x.op, .int .i64 x.arg] 37).below hb1; have z0 := hk1.cell 0; have z1 := hk1.cell 1; simp only [List.getElem?_cons_zero, List.getElem?_cons_succ] at z0 z1; have HK1 := Lib.hid hk1; clear hb1 hk1) | (go_at_call 42; refine (HHA.out _).mono ?_; rintro e w2 ⟨rfl, hb2⟩; have HB2 := Lib.hid (bl_thenA HB1.out hb2); have hk2 := HK1.out.below hb2; have y0 := hk2.cell 0; have y1 := hk2.cell 1; simp only [List.getElem?_cons_zero, List.getElem?_cons_succ] at y0 y1; have HTb := Lib.hid (tab_belowA HTab.out (bl_thenA HB.out HB2.out)); clear hb2 hk2) | (go_at_call 43; refine (HTX.out _ HTb.out).mono ?_; rintro e w3 ⟨rfl, hb3⟩; have HB3 := Lib.hid (bl_thenA HB2.out hb3); clear hb3) | (fail))
          go_roundw
          case rel => exact ⟨k + 1, by go_num, by omega, congrArg Value.string (by rw [HS.out]; simp only [c9, c10, c32, mk_mkB, mkB_app, List.append_assoc, List.nil_append, List.cons_append]), Lib.hid (bl_thenA HB.out HB2.out)⟩
          case measure => simp [RowKit.intOf]; omega
    · have hkn : k = n := by omega
      subst hkn
      have HE : Hid (printP l = P) := Lib.hid (by rw [← HPP.out, List.take_of_length_le (by rw [HN.out]; exact Nat.le_refl _)])
      go_wp2
      go_ret
      exact ⟨congrArg (fun q => Ending.returned (Value.string (mkB q))) HE.out.symm, HB.out⟩
end Go.Proofs.YtbcpopakdlplgaaDoor
