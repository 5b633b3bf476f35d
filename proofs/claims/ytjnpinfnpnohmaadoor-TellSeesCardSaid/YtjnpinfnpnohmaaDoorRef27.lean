/- Contracts of clewref21's flag, bit and Has.; Contract of clewref24.Listed. -/
import Derived.Test.YtjnpinfnpnohmaaDoorRef21
import Derived.Test.YtjnpinfnpnohmaaDoorHas
import Derived.Test.YtjnpinfnpnohmaaDoorRef23
namespace Go.Proofs.YtjnpinfnpnohmaaDoor
open Go.RowKit Go.PlainAid
set_option linter.unusedVariables false
set_option linter.unusedSimpArgs false

theorem ref21flag (q : Wv) (x f : Int) (w : World) (hm : q.l1 ≤ maxLen) (h0 : 0 ≤ f) (h1 : f ≤ 15) :
    Calls Tryd.prog 48 #[worldV q, .int .i64 x, .int .i64 f] w fun e w' => e = .returned (.int .i64 (if isW q.l1 x then 0 else 11)) ∧ Below w.heap.size w w' := by
  have HI := Lib.hid (fun w' => ref20Is q x w' hm)
  clear hm
  cases hx : isW q.l1 x with
  | false =>
    rw [hx] at HI
    clear hx
    unfold worldV worldC at *
    go_enter Tryd.func48, Tryd.ntmps48
    go_wp2_with fail
    refine (HI.out _).mono ?_
    rintro e w1 ⟨rfl, hb1⟩
    have HB1 := Lib.hid ((bl_oneA w _).trans (hb1.mono (bl_oneA w _).size))
    clear hb1
    go_wp2
    go_ret
    exact ⟨rfl, HB1.out⟩
  | true =>
    rw [hx] at HI
    clear hx
    unfold worldV worldC at *
    go_enter Tryd.func48, Tryd.ntmps48
    go_wp2_with fail
    refine (HI.out _).mono ?_
    rintro e w1 ⟨rfl, hb1⟩
    have HB1 := Lib.hid ((bl_oneA w _).trans (hb1.mono (bl_oneA w _).size))
    clear hb1
    go_wp2
    go_ret
    exact ⟨rfl, HB1.out⟩
set_option maxRecDepth 100000 in
theorem ref21bit (m f : Int) (w : World) (m0 : 0 ≤ m) (m1 : m ≤ 65535) (h0 : 0 ≤ f) (h1 : f ≤ 15) :
    Calls Tryd.prog 49 #[.int .i64 m, .int .i64 f] w fun e w' => e = .returned (.bool (bitB m f)) ∧ w = w' := by
  obtain ⟨k, rfl⟩ : ∃ k : Nat, f = k := ⟨f.toNat, by omega⟩
  unfold bitB
  rw [show ((k : Int)).toNat = k by omega]
  have HD : Hid (∀ i : Nat, m / 2 ^ (i + 1) = m / 2 ^ i / 2) := Lib.hid (fun i => by
    obtain ⟨M, rfl⟩ : ∃ M : Nat, m = M := ⟨m.toNat, by omega⟩
    have := Nat.div_div_eq_div_mul M (2 ^ i) 2
    rw [Int.pow_succ]
    exact_mod_cast this.symm)
  have HB : Hid (∀ i : Nat, 0 ≤ m / 2 ^ i ∧ m / 2 ^ i ≤ 65535) := Lib.hid (fun i => by have := shr_bd m i m0 m1; rwa [show ((i : Int)).toNat = i by omega] at this)
  go_enter Tryd.func49, Tryd.ntmps49
  go_wp2_with fail
  go_loop [0, 5] (fun nv iv => ∃ (i : Nat), iv = .int .i64 i ∧ i ≤ k ∧ nv = .int .i64 (m / 2 ^ i)) (fun _ iv => k - (intOf iv).toNat)
  case atStart => exact ⟨0, rfl, Nat.zero_le _, by simp⟩
  case round =>
    obtain ⟨i, rfl, hik, rfl⟩ := hrel
    have hv := HB.out i
    have HS := Lib.hid (HD.out i)
    by_cases hlt : i < k
    · generalize m / 2 ^ i = v at *
      obtain ⟨v0, v1⟩ := hv
      have hq : Int.tdiv v 2 = v / 2 := Int.tdiv_eq_ediv_of_nonneg v0
      have hq1 : IntKind.i64.wrap (v / 2) = v / 2 := IntWalk.i64_in _ (by omega)
      go_wp2
      go_round
      case rel => exact ⟨i + 1, by go_num, by omega, by rw [HS.out]⟩
      case measure => simp [intOf]; omega
    · obtain rfl : i = k := by omega
      obtain ⟨v, hvv⟩ : ∃ v, m / 2 ^ i = v := ⟨_, rfl⟩
      have HVV := Lib.hid hvv
      rw [hvv] at hv ⊢
      clear hvv
      obtain ⟨v0, v1⟩ := hv
      have hq : Int.tmod v 2 = v % 2 := Int.tmod_eq_emod_of_nonneg v0
      have hq1 : IntKind.i64.wrap (v % 2) = v % 2 := IntWalk.i64_in _ (by omega)
      go_wp2
      go_ret
      refine ⟨?_, rfl⟩
      rw [HVV.out]
      rfl

set_option maxRecDepth 100000 in
set_option maxHeartbeats 4000000 in
theorem ref21At (q : Wv) (d : WdC) (x f : Int) (n : Nat) (w : World) (hw : WIs w q d) (hl : WLen q d n) (h4 : q.l4 = n) (hx : isW n x = true) (h0 : 0 ≤ f) (h1 : f ≤ 15) (hfl : ∀ m ∈ d.fl, 0 ≤ m ∧ m ≤ 65535) :
    Calls Tryd.prog 53 #[worldV q, .int .i64 x, .int .i64 f] w fun e w' => e = .returned (.tuple #[.bool (bitB (atW d.fl x) f), .int .i64 0]) ∧ Below w.heap.size w w' := by
  have hlt := isW_lt hx
  have h5 : d.fl.length = n := by rw [← hw.fl.len, h4]
  obtain ⟨bc, oc, hac, hbc, hcc, _⟩ := hw.fl.at_ (i := x.toNat) (by rw [h5]; exact hlt.1)
  have hcx := hcc x.toNat (by rw [h5]; exact hlt.1)
  have hfm := hfl _ (List.getElem_mem (n := x.toNat) (by rw [h5]; exact hlt.1))
  rw [atW_get (by rw [h5]; exact hlt.1)]
  generalize d.fl[x.toNat]'(by rw [h5]; exact hlt.1) = m at *
  have HI := Lib.hid (fun w' => ref21flag q x f w' (by rw [hl.h1]; exact hl.few) h0 h1)
  rw [hl.h1, hx] at HI
  have HBT := Lib.hid (fun w' => ref21bit m f w' hfm.1 hfm.2 h0 h1)
  have hm := hl.few
  unfold maxLen at hm
  have HB : Hid (∀ W1, Below w.heap.size (w.alloc (.cells (worldC q).toArray 34)) W1 → W1.cell? ⟨bc, oc + x.toNat, none⟩ = some (.int .i64 m)) := Lib.hid (fun W1 hb => (hb.cell (p := ⟨bc, oc + x.toNat, none⟩) hbc).trans (((bl_oneA w _).cell (p := ⟨bc, oc + x.toNat, none⟩) hbc).trans hcx))
  clear hw hfl hcc hcx h5 hl hx
  obtain ⟨hx1', hx2', hx3'⟩ := hlt
  obtain ⟨hm0, hm1⟩ := hfm
  unfold worldV worldC at *
  obtain ⟨a0, a1, a2, a3, a4, a5, a6, l0, l1, l2, l3, l4, l5, l6, c0, c1, c2, c3, c4, c5, c6, s, sc, tu, ov, it, go⟩ := q
  simp only at *
  subst h4 hac
  go_enter Tryd.func53, Tryd.ntmps53
  go_wp2_with fail
  refine (HI.out _).mono ?_
  rintro e w1 ⟨rfl, hb1⟩
  have HB1 := Lib.hid ((bl_oneA w _).trans (hb1.mono (bl_oneA w _).size))
  have hcx := HB.out w1 (hb1.mono (bl_oneA w _).size)
  have b4 := (hb1.cell (p := ⟨w.heap.size, 4, none⟩) (by simp)).trans ((BK.new w (worldC ⟨a0, a1, a2, a3, some ⟨bc, oc, none⟩, a5, a6, l0, l1, l2, l3, l4, l5, l6, c0, c1, c2, c3, c4, c5, c6, s, sc, tu, ov, it, go⟩) 34).cell 4)
  simp only [worldC, List.getElem?_cons_zero, List.getElem?_cons_succ] at b4
  clear hb1
  go_wp2_with (go_at_call 49; (with_reducible refine (HBT.out _).mono ?_); rintro e w2 ⟨rfl, rfl⟩)
  go_ret2
  exact ⟨rfl, HB1.out⟩
theorem ref21None (q : Wv) (x f : Int) (w : World) (hm : q.l1 ≤ maxLen) (hx : isW q.l1 x = false) (h0 : 0 ≤ f) (h1 : f ≤ 15) :
    Calls Tryd.prog 53 #[worldV q, .int .i64 x, .int .i64 f] w fun e w' => e = .returned (.tuple #[.bool false, .int .i64 11]) ∧ Below w.heap.size w w' := by
  have HI := Lib.hid (fun w' => ref21flag q x f w' hm h0 h1)
  rw [hx] at HI
  clear hm hx
  unfold worldV worldC at *
  go_enter Tryd.func53, Tryd.ntmps53
  go_wp2_with fail
  refine (HI.out _).mono ?_
  rintro e w1 ⟨rfl, hb1⟩
  have HB1 := Lib.hid ((bl_oneA w _).trans (hb1.mono (bl_oneA w _).size))
  clear hb1
  go_wp2
  go_ret2
  exact ⟨rfl, HB1.out⟩
theorem ref21Has (q : Wv) (d : WdC) (x f : Int) (n : Nat) (w : World) (h : WOk w q d n) (h0 : 0 ≤ f) (h1 : f ≤ 15) :
    Calls Tryd.prog 53 #[worldV q, .int .i64 x, .int .i64 f] w fun e w' => e = .returned (.tuple #[.bool (hasB d.fl n x f), .int .i64 (if isW n x then 0 else 11)]) ∧ Below w.heap.size w w' := by
  unfold hasB
  cases hx : isW n x with
  | false => exact ref21None q x f w h.m1 (by rw [h.len.h1]; exact hx) h0 h1
  | true => exact ref21At q d x f n w h.is h.len h.l4 hx h0 h1 h.fl
end Go.Proofs.YtjnpinfnpnohmaaDoor
namespace Go.Proofs.YtjnpinfnpnohmaaDoor
open Go.RowKit Go.PlainAid
set_option linter.unusedVariables false
set_option linter.unusedSimpArgs false

def shownB (fl : List Int) (n : Nat) (c : Int) : Bool := !hasB fl n c 3 && !(c == 1)
theorem filter_take {p : Int → Bool} {L : List Int} {i : Nat} (h : i < L.length) : (L.take (i + 1)).filter p = (L.take i).filter p ++ (if p L[i] = true then [L[i]] else []) := by
  rw [List.take_succ_eq_append_getElem h, List.filter_append]
  congr 1
  by_cases hp : p L[i] = true <;> simp [hp]
set_option maxRecDepth 100000 in
set_option maxHeartbeats 8000000 in
theorem ref24Listed (q : Wv) (d : WdC) (x : Int) (n : Nat) (w : World) (hW : WOk w q d n) :
    Calls Tryd.prog 23 #[worldV q, .int .i64 x] w (RetIntsR w ((kidsW d.ch d.nx n x).filter (shownB d.fl n))) := by
  have hnn : n ≤ 1000000 := Nat.le_trans hW.few (by decide)
  have HK := Lib.hid (fun w' (hb : Below w.heap.size w w') => ref20Kids q d x n w' (hW.is.below hb) hW.len hnn)
  have HH := Lib.hid (fun c w' (hb : Below w.heap.size w w') => ref21Has q d c 3 n w' (hW.below hb) (by decide) (by decide))
  have hnew := OneBx.new q w
  obtain ⟨W0, hW0⟩ : ∃ W0, w.alloc (.cells (worldC q).toArray 34) = W0 := ⟨_, rfl⟩
  rw [hW0] at hnew
  obtain ⟨i0, hi, hi1, hi2, hi3⟩ := info_parts info_intR
  have HM : (kidsW d.ch d.nx n x).length ≤ 1000000 := kids_len1 _ _ _ _ hnn
  have HS : Hid (∀ c, shownB d.fl n c = (!hasB d.fl n c 3 && !(c == 1))) := Lib.hid (fun c => rfl)
  generalize kidsW d.ch d.nx n x = L at *
  generalize shownB d.fl n = p at *
  have HB := Lib.hid hnew
  have HBw := Lib.hid hnew.bw
  clear hW hnew
  unfold worldV at *
  unfold worldC at HK HH hW0
  have b0 := HBw.out.cell 0
  have b1 := HBw.out.cell 1
  have b2 := HBw.out.cell 2
  have b3 := HBw.out.cell 3
  have b4 := HBw.out.cell 4
  have b5 := HBw.out.cell 5
  have b6 := HBw.out.cell 6
  have b7 := HBw.out.cell 7
  have b8 := HBw.out.cell 8
  have b9 := HBw.out.cell 9
  have bA := HBw.out.cell 10
  have bB := HBw.out.cell 11
  have bC := HBw.out.cell 12
  simp only [worldC, List.getElem?_cons_zero, List.getElem?_cons_succ] at b0 b1 b2 b3 b4 b5 b6 b7 b8 b9 bA bB bC
  go_enter Tryd.func23, Tryd.ntmps23
  unfold worldC
  go_wp2_with fail
  clear hW0
  refine (HK.out _ HB.out.bl).mono ?_
  rintro e w1 ⟨v, rfl, g1, g2⟩
  obtain ⟨a, cc, rfl⟩ := g1.shape
  have HIN1 := Lib.hid (g1.ints (by unfold maxLen; omega))
  have HB1 := Lib.hid (HB.out.below g2)
  clear g1 g2 HK HBw HB
  clear b0 b1 b2 b3 b4 b5 b6 b7 b8 b9 bA bB bC
  obtain ⟨m, hm⟩ : ∃ m, L.length = m := ⟨_, rfl⟩
  have HLM := Lib.hid hm
  rw [hm] at HIN1 HM ⊢
  clear hm
  go_wp2_with fail
  go_loopw [5, 14] (fun ov iv wr => ∃ (i j : Nat) (va : Option Addr) (vc : Nat), ov = .slice va j vc ∧ iv = .int .i64 i ∧ i ≤ m ∧ Hid (((L.take i).filter p).length = j) ∧ Hid (OwnInts w1.heap.size wr (.slice va j vc) ((L.take i).filter p)) ∧ Hid (Below w1.heap.size w1 wr)) (fun _ iv _ => m - (intOf iv).toNat)
  case atStart => exact ⟨0, 0, none, 0, rfl, rfl, Nat.zero_le _, Lib.hid rfl, Lib.hid ⟨World.ownsRow_nil _ _ _ _, fun _ => rfl⟩, Lib.hid (Below.refl _ _)⟩
  case round =>
    obtain ⟨i, j, va, vc, rfl, rfl, hil, HPL, HOW, HBL⟩ := hrel
    have HBR := Lib.hid (HB1.out.below HBL.out)
    have HIN := Lib.hid (HIN1.out.below HBL.out)
    have HBRw := Lib.hid HBR.out.bw
    have b0 := HBRw.out.cell 0
    have b1 := HBRw.out.cell 1
    have b2 := HBRw.out.cell 2
    have b3 := HBRw.out.cell 3
    have b4 := HBRw.out.cell 4
    have b5 := HBRw.out.cell 5
    have b6 := HBRw.out.cell 6
    have b7 := HBRw.out.cell 7
    have b8 := HBRw.out.cell 8
    have b9 := HBRw.out.cell 9
    have bA := HBRw.out.cell 10
    have bB := HBRw.out.cell 11
    have bC := HBRw.out.cell 12
    simp only [worldC, List.getElem?_cons_zero, List.getElem?_cons_succ] at b0 b1 b2 b3 b4 b5 b6 b7 b8 b9 bA bB bC
    by_cases hlt : i < m
    · have hiL : i < L.length := by rw [HLM.out]; exact hlt
      obtain ⟨b, o, rfl, hb, hcs⟩ := HIN.out.at2 (by omega)
      have hci := hcs i hiL
      have HF := Lib.hid (filter_take (p := p) hiL)
      have hjm : j ≤ 1000000 := by
        rw [← HPL.out]
        refine Nat.le_trans (List.length_filter_le _ _) ?_
        rw [List.length_take]; omega
      generalize L[i] = c at *
      clear hcs hiL
      go_wp2_with fail
      refine (HH.out c _ HBR.out.bl).mono ?_
      rintro e w2 ⟨rfl, hb2⟩
      have HSc := Lib.hid (HS.out c)
      have HBL2 := Lib.hid (bl_then HBL.out hb2)
      have HOW2 := Lib.hid (HOW.out.below hb2)
      have hz2 : w1.heap.size ≤ w2.heap.size := HBL2.out.size
      clear hb2 hci
      clear b0 b1 b2 b3 b4 b5 b6 b7 b8 b9 bA bB bC
      generalize (if isW n c then (0 : Int) else 11) = er
      cases hh : hasB d.fl n c 3 with
      | true =>
        have hp : p c = false := by rw [HSc.out, hh]; rfl
        have HE : Hid ((L.take (i + 1)).filter p = (L.take i).filter p) := Lib.hid (by rw [HF.out, hp]; simp)
        clear hh hp
        go_wp2_with fail
        go_roundw
        case rel => exact ⟨i + 1, j, va, vc, rfl, by go_num, by omega, Lib.hid (by rw [HE.out]; exact HPL.out), Lib.hid (by rw [HE.out]; exact HOW2.out), HBL2⟩
        case measure => simp [intOf]; omega
      | false =>
        by_cases h1 : c = 1
        · have hp : p c = false := by rw [HSc.out, hh, h1]; rfl
          have HE : Hid ((L.take (i + 1)).filter p = (L.take i).filter p) := Lib.hid (by rw [HF.out, hp]; simp)
          have qc : (c != 1) = false := by simpa using h1
          clear hh hp h1
          go_wp2_with fail
          go_roundw
          case rel => exact ⟨i + 1, j, va, vc, rfl, by go_num, by omega, Lib.hid (by rw [HE.out]; exact HPL.out), Lib.hid (by rw [HE.out]; exact HOW2.out), HBL2⟩
          case measure => simp [intOf]; omega
        · have hp : p c = true := by rw [HSc.out, hh]; simp [h1]
          have HE : Hid ((L.take (i + 1)).filter p = (L.take i).filter p ++ [c]) := Lib.hid (by rw [HF.out, hp]; simp)
          have qc : (c != 1) = true := by simpa using h1
          clear hh hp h1 HF HSc
          generalize (L.take i).filter p = pre at *
          have hown : w2.ownsRow w1.heap.size 3 1 (.slice va j vc) j (pre.map (Value.int .i64)) := by have := HOW2.out.1; rwa [HPL.out] at this
          have HLO := Lib.hid (ow_lo hown)
          have HWN := Lib.hid (hown.alloc (.cells #[.int .i64 c] 3))
          have HBA := Lib.hid (bl_a HBL2.out (.cells #[.int .i64 c] 3))
          clear hown
          go_wp2_with (at_builtin; refine wpList_append_own _ rfl _ _ 23 rfl w1.heap.size 3 i0 (.int .i64 0) 1 8 Tryd.underlying23 hi hi1 hi2 hi3 rfl (by decide) _ j (pre.map (Value.int .i64)) rfl HWN.out ⟨w2.heap.size, 0, none⟩ 1 1 [.int .i64 c] rfl rfl (int_newS _ _ _) (ow_one rfl) (by unfold maxLen; omega) (by omega) (by simp; omega) ?_; intro v3 w3 hown3 hgrow3 _; obtain ⟨g3, cap3, rfl⟩ := ownsRow_succ hown3; have HO3 : Hid (OwnInts w1.heap.size w3 (.slice (some ⟨g3, 0, none⟩) (j + 1) cap3) (pre ++ [c])) := Lib.hid ⟨by rw [List.length_append, HPL.out]; simpa using hown3, fun e => by simp at e⟩; have HB3 := Lib.hid (bl_g HBA.out hgrow3 HLO.out); clear hown3 hgrow3)
          go_roundw
          case rel => exact ⟨i + 1, j + 1, _, _, rfl, by go_num, by omega, Lib.hid (by rw [HE.out, List.length_append, HPL.out]; rfl), Lib.hid (by rw [HE.out]; exact HO3.out), HB3⟩
          case measure => simp [intOf]; omega
    · have HE : Hid (L.filter p = (L.take i).filter p) := Lib.hid (by rw [List.take_of_length_le (by rw [HLM.out]; omega)])
      have hz1 : w.heap.size ≤ w1.heap.size := HB1.out.bl.size
      go_wp2_with fail
      go_ret
      exact ⟨_, rfl, by rw [HE.out]; exact HOW.out.base (by omega), HBR.out.bl⟩
end Go.Proofs.YtjnpinfnpnohmaaDoor
