/- The walks of the laws LexPrints and LexBack: they answer true. -/
import Derived.Test.YtmelilppeikdiaaDoorPrint2
import Derived.Test.YtmelilppeikdiaaDoorCode
import Derived.OpenShut
namespace Go.Proofs.YtmelilppeikdiaaDoor
open Go.RowKit Go.PlainAid
set_option linter.unusedVariables false
set_option linter.unusedSimpArgs false

theorem maxlen_someP (w : World) (h : w.ShapedOpen Tryd.prog) : ∃ m, w.cell? ⟨0, 0, none⟩ = some (.int .i64 m) := Tryd.laysM144.s1_3 w h
theorem hm_below {w w' : World} {m : Int} (h : w.cell? ⟨0, 0, none⟩ = some (.int .i64 m)) (hb : Below w.heap.size w w') : w'.cell? ⟨0, 0, none⟩ = some (.int .i64 m) := by
  rw [hb.cell (p := ⟨_, 0, none⟩) (lt_cell h)]; exact h
theorem bl_then {w x y : World} (h : Below w.heap.size w x) (g : Below x.heap.size x y) : Below w.heap.size w y := h.trans (g.mono h.size)
/-- A token's code. -/
def Cd.tok : Cd TT := ⟨5, fun _ cs x => cs = tokCells x ∧ x.t.text.length ≤ maxLen ∧ (Lit.int .i64 x.t.num).wf = true, fun h => by rw [h.1]; rfl, fun h _ => h⟩
theorem opens_tok : Opens Tryd.prog 25 Cd.tok := fun enc w base spare held fuel cs d h => by
  obtain ⟨h1, h2⟩ := opens_fields Tryd.underlying25 (by kernel_rfl) (by kernel_rfl) h
  obtain ⟨c0, c1, c2, c3, c4, rfl⟩ : ∃ c0 c1 c2 c3 c4, cs = [c0, c1, c2, c3, c4] := by
    match cs, h1 with
    | [c0, c1, c2, c3, c4], _ => exact ⟨_, _, _, _, _, rfl⟩
  obtain ⟨x0, y0⟩ := opens_one (c := Cd.int .i64) 0 _ h2 rfl (by simp) (opens_int Tryd.underlying3)
  obtain ⟨x1, y1⟩ := opens_one (c := Cd.str) 1 _ h2 rfl (by simp) (opens_str Tryd.underlying9)
  obtain ⟨x2, y2⟩ := opens_one (c := Cd.int .i64) 2 _ h2 rfl (by simp) (opens_int Tryd.underlying3)
  obtain ⟨x3, y3⟩ := opens_one (c := Cd.int .i64) 3 _ h2 rfl (by simp) (opens_int Tryd.underlying3)
  obtain ⟨x4, y4⟩ := opens_one (c := Cd.int .i64) 4 _ h2 rfl (by simp) (opens_int Tryd.underlying3)
  refine ⟨⟨⟨x0, x1, x2, 0, 0, 0⟩, x3, x4⟩, ?_, y1.2, y2.2⟩
  have e0 := y0.1
  have e1 := y1.1
  have e2 := y2.1
  have e3 := y3.1
  have e4 := y4.1
  simp at e0 e1 e2 e3 e4
  rw [e0, e1, e2, e3, e4]; rfl
theorem opens_toks : Opens Tryd.prog 22 Cd.tok.seq := opens_seq Tryd.underlying22 (by kernel_rfl) (by decide) opens_tok
theorem toks_sln {w : World} {v : Value} {L : List TT} (h : Reads Cd.tok.seq w v L) : SLN 5 w v (tokRows L) ∧ ∀ x ∈ L, x.t.text.length ≤ maxLen ∧ (Lit.int .i64 x.t.num).wf = true := by
  obtain ⟨v', rows, h1, h2, h3, h4⟩ := h
  obtain rfl : v = v' := by simpa using h1
  have e : rows = tokRows L := by
    apply List.ext_getElem
    · simp [tokRows, h3]
    · intro i a b
      have := (h4 i a (by simpa [tokRows] using b)).1
      rw [this]; simp [tokRows]
  refine ⟨by rw [← e]; exact h2.1, fun x hx => ?_⟩
  obtain ⟨i, hi, rfl⟩ := List.getElem_of_mem hx
  exact (h4 i (by omega) hi).2

set_option maxRecDepth 100000 in
set_option maxHeartbeats 8000000 in
theorem walkPrints (v : Value) (L : List TT) (s : ByteArray) (m : Int) (w : World) (hv : Reads Cd.tok.seq w v L) (ws : s.size ≤ maxLen) (hm : w.cell? ⟨0, 0, none⟩ = some (.int .i64 m))
    (htab : Lib.TabIs Tryd.prog w "internal/strconv.uint64pow10" .u64 Lib.pow10Tab) :
    Calls Tryd.prog 3 #[v, .string s] w fun e w' => e = .returned (.bool true) ∧ Below w.heap.size w w' := by
  obtain ⟨hS, hT⟩ := toks_sln hv
  obtain ⟨a0, c0, hv0, hc0, hlm⟩ := hv.len
  unfold maxLen at ws hlm
  have HS := Lib.hid hS
  have HT := Lib.hid hT
  have HM := Lib.hid hm
  have HTab := Lib.hid htab
  subst hv0
  have hrl : (tokRows L).length = L.length := by simp [tokRows]
  clear hS hT hm htab hv
  by_cases hl1 : 60 < L.length
  · go_enter Tryd.func3, Tryd.ntmps3
    go_wp2_with (go_at_call 5; refine (awake09 m _ HM.out).mono ?_; rintro e w3 ⟨rfl, hb3⟩)
    go_ret
    exact ⟨rfl, hb3⟩
  · by_cases hl2 : 300 < s.size
    · go_enter Tryd.func3, Tryd.ntmps3
      go_wp2_with (go_at_call 5; refine (awake09 m _ HM.out).mono ?_; rintro e w3 ⟨rfl, hb3⟩)
      go_ret
      exact ⟨rfl, hb3⟩
    · go_enter Tryd.func3, Tryd.ntmps3
      go_wp2_with fail
      go_loopw [18] (fun i wr => ∃ k : Nat, k ≤ L.length ∧ i = .int .i64 k ∧ Hid (Below w.heap.size w wr) ∧ Hid (∀ j (h : j < L.length), j < k → L[j].t.text.length ≤ 100)) (fun i _ => L.length - (intOf i).toNat)
      case atStart => exact ⟨0, Nat.zero_le _, rfl, Lib.hid (Below.refl _ _), Lib.hid (fun j h h2 => by omega)⟩
      case round =>
        obtain ⟨k, hk, rfl, hBl, hK⟩ := hrel
        by_cases hlt : k < L.length
        · have hr : k < (tokRows L).length := by rw [hrl]; exact hlt
          obtain ⟨b, off, c, hv', hblt, hcell⟩ := HS.out.open (by omega)
          have hac : a0 = some ⟨b, off, none⟩ := by simp at hv'; exact hv'.1
          subst hac
          have hx : (tokRows L)[k] = tokCells L[k] := by simp [tokRows]
          have hkx : ∀ (h : L[k].t.text.length ≤ 100), Hid (∀ j (h : j < L.length), j < k + 1 → L[j].t.text.length ≤ 100) := fun h => Lib.hid (fun j hj h2 => by
            by_cases e : j = k
            · subst e; exact h
            · exact hK.out j hj (by omega))
          have hxm := (HT.out L[k] (List.getElem_mem hlt)).1
          unfold maxLen at hxm
          have a0' : ∀ j, j < 5 → wr.cell? ⟨b, off + k * 5 + j, none⟩ = (tokCells L[k])[j]? := fun j hj => by
            rw [← hx]; exact (hBl.out.cell (p := ⟨b, off + k * 5 + j, none⟩) hblt).trans (hcell k j hr hj)
          have e0 := a0' 0 (by decide)
          have e1 := a0' 1 (by decide)
          have e2 := a0' 2 (by decide)
          have e3 := a0' 3 (by decide)
          have e4 := a0' 4 (by decide)
          clear a0'
          generalize L[k] = x at e0 e1 e2 e3 e4 hkx hxm
          simp [tokCells] at e0 e1 e2 e3 e4
          have hxs := mkB_size x.t.text
          clear hv' hcell hx hr
          by_cases ht : 100 < x.t.text.length
          · have hmw : ∀ o, (wr.alloc o).cell? ⟨0, 0, none⟩ = some (.int .i64 m) := fun o => hm_below HM.out (bl_a hBl.out o)
            have HMW := Lib.hid hmw
            clear hmw hkx
            go_wp2_with (go_at_call 5; refine (awake09 m _ (HMW.out _)).mono ?_; rintro e w3 ⟨rfl, hb3⟩)
            go_ret
            exact ⟨rfl, (bl_a hBl.out _).trans (hb3.mono (bl_a hBl.out _).size)⟩
          · have HK2 := hkx (by omega)
            clear hkx
            go_wp2
            go_roundw
            case rel => exact ⟨k + 1, hlt, by go_num, Lib.hid (bl_a hBl.out _), HK2⟩
            case measure => simp [intOf]; omega
        · have hall : ∀ x ∈ L, x.t.text.length ≤ 1024 ∧ -9223372036854775808 ≤ x.t.num ∧ x.t.num ≤ 9223372036854775807 := fun x hx => by
            obtain ⟨j, hj, rfl⟩ := List.getElem_of_mem hx
            have h1 := hK.out j hj (by omega)
            have h2 := Go.bounds_i64 (HT.out _ hx).2
            exact ⟨by omega, h2.1, h2.2⟩
          have HP1 := Lib.hid (fun w h1 h2 => lexPrint (.slice a0 L.length c0) L w h1 (by omega) hall h2)
          have HP2 := Lib.hid (fun w h1 => refPrint (.slice a0 L.length c0) L w h1 (by omega) hall)
          have HQ1 := Lib.hid (fun w => lexQuote s w (by omega))
          have HQ2 := Lib.hid (fun w => refQuote s w (by omega))
          obtain ⟨wo, hwo⟩ : ∃ wo : World, wo = wr := ⟨_, rfl⟩
          rw [← hwo] at hBl ⊢
          clear hwo hall
          have HSo := Lib.hid (HS.out.below hBl.out)
          go_wp2_with fail
          refine (HP1.out _ HSo.out (tab_belowP HTab.out hBl.out)).mono ?_
          rintro e w1 ⟨rfl, hb1⟩
          have HB1 : Hid (Below w.heap.size w w1) := Lib.hid (hBl.out.trans (hb1.mono hBl.out.size))
          have HS1 := Lib.hid (HSo.out.below hb1)
          clear hb1
          go_wp2_with fail
          refine (HP2.out _ HS1.out).mono ?_
          rintro e w2 ⟨rfl, rfl⟩
          go_wp2_with fail
          refine (HQ1.out _).mono ?_
          rintro e w2 ⟨rfl, hb2⟩
          have HB2 : Hid (Below w.heap.size w w2) := Lib.hid (HB1.out.trans (hb2.mono HB1.out.size))
          clear hb2
          go_wp2_with fail
          refine (HQ2.out _).mono ?_
          rintro e w4 ⟨rfl, rfl⟩
          go_wp2_with (go_at_call 5; refine (awake09 m _ (hm_below HM.out HB2.out)).mono ?_; rintro e w3 ⟨rfl, hb3⟩)
          go_ret
          exact ⟨rfl, HB2.out.trans (hb3.mono HB2.out.size)⟩
end Go.Proofs.YtmelilppeikdiaaDoor
