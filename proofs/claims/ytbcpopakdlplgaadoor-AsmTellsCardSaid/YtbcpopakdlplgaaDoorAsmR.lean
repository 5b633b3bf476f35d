/- What reads as what: strings of bytes, literals; clewlaw30.awake. -/
import Derived.Test.YtbcpopakdlplgaaDoorAsmX3
import Derived.Test.YtbcpopakdlplgaaDoorAsmZ
import Derived.Test.YtbcpopakdlplgaaDoorAsmP
import Derived.Test.YtbcpopakdlplgaaDoorAsmQ
import Derived.Test.YtbcpopakdlplgaaDoorAsmPlain
import Derived.Laws.BytesArg
namespace Go.Proofs.YtbcpopakdlplgaaDoor
open Go.RowKit Go.PlainAid Go.Maps
set_option linter.unusedVariables false
set_option linter.unusedSimpArgs false

/-- Bytes as a string. -/
theorem str_reads {w : World} {v : Value} {l : List UInt8} (h : Reads Cd.byte.seq w v l) : (convert 27 9 v).run Tryd.prog w = .ok (.string (mkB l)) w := by
  by_cases h0 : 0 < l.length
  · obtain ⟨b, off, cap, rfl, h1, h2, h3⟩ := byte_open h h0
    exact run_convert_bytes_back w _ _ 5 ⟨b, off, none⟩ cap l Tryd.underlying27 Tryd.underlying5 Tryd.underlying9 (fun j hj => by rw [addr_addC]; exact h3 j hj)
  · obtain ⟨a, cap, rfl, _, _⟩ := h.len
    have : l = [] := List.length_eq_zero_iff.1 (by omega)
    subst this
    cases a with
    | none => exact run_convert_bytes_nil w _ 5 Tryd.underlying27 Tryd.underlying5 0 cap _ Tryd.underlying9
    | some ad => exact run_convert_bytes_back w _ _ 5 ad cap [] Tryd.underlying27 Tryd.underlying5 Tryd.underlying9 (fun j hj => by simp at hj)
theorem flat_insC (l : List IN) : ∀ r ∈ l.map insC, r.length = 2 := fun r hr => by obtain ⟨x, _, rfl⟩ := List.mem_map.1 hr; rfl
theorem reads_bk {w : World} {k : Nat} {T : TypeId} {l : List IN} (h : BK w k ((l.map insC).flatten) T) (hw : ∀ x ∈ l, InW x) (hm : l.length ≤ maxLen) : Reads Cd.ins.seq w (.slice (some ⟨k, 0, none⟩) l.length l.length) l :=
  ⟨_, l.map insC, rfl, ⟨⟨by simpa using hm, flat_insC l, .inr ⟨k, 0, l.length, by simp, h.lt, fun i j hi hj => by
    rw [h.cell, Nat.zero_add]; exact flat_at _ (flat_insC l) i j hi hj⟩⟩, some ⟨k, 0, none⟩, l.length, by simp, by simp⟩, by simp, fun i h1 h2 => ⟨by simp, hw _ (List.getElem_mem h2)⟩⟩
theorem reads_one {w : World} {g o c : Nat} {x : IN} (h0 : w.cell? ⟨g, o, none⟩ = some (.int .i64 x.op)) (h1 : w.cell? ⟨g, o + 1, none⟩ = some (.int .i64 x.arg)) (hc : 1 ≤ c) (hw : InW x) : Reads Cd.ins.seq w (.slice (some ⟨g, o, none⟩) 1 c) [x] :=
  ⟨_, [insC x], rfl, ⟨⟨(by show 1 ≤ maxLen; unfold maxLen; omega), fun r hr => by simp at hr; subst hr; rfl, .inr ⟨g, o, c, rfl, lt_cell h0, fun i j hi hj => by
    have : i = 0 := by simpa using hi
    subst this
    have : j = 0 ∨ j = 1 := by have h2 : j < 2 := hj; omega
    rcases this with rfl | rfl
    · simpa [insC] using h0
    · simpa [insC] using h1⟩⟩, some ⟨g, o, none⟩, c, rfl, hc⟩, rfl, fun i h1 h2 => by
    have : i = 0 := by simpa using h1
    subst this
    exact ⟨rfl, hw⟩⟩
theorem litB (w : World) (l : List UInt8) : ∀ j (h : j < l.length), (w.alloc (.cells (l.map byteV).toArray 5)).cell? ((⟨w.heap.size, 0, none⟩ : Addr).add j) = some (.int .u8 (l[j].toNat : Int)) := fun j hj => by
  rw [addr0, (BK.new w (l.map byteV) _).cell, List.getElem?_map, List.getElem?_eq_getElem hj]; rfl
theorem ex_print : mkB (printP [⟨38, 0⟩]) = ⟨#[108, 97, 98, 101, 108, 32, 48, 10]⟩ := by decide +kernel
theorem norm_wf {l : List IN} (h : ∀ x ∈ l, -1000000 ≤ x.op ∧ x.op ≤ 1000000 ∧ -1000000 ≤ x.arg ∧ x.arg ≤ 1000000) : ∀ x ∈ l, InW x := fun x hx => by
  have := h x hx
  exact ⟨by unfold Wf; omega, by unfold Wf; omega⟩
set_option maxRecDepth 100000 in
set_option maxHeartbeats 8000000 in
theorem awakeC (w : World) (htab : Lib.TabIs Tryd.prog w "internal/strconv.uint64pow10" .u64 Lib.pow10Tab) :
    Calls Tryd.prog 10 #[] w fun e w' => e = .returned (.bool true) ∧ Below w.heap.size w w' := by
  have HTab := Lib.hid htab
  obtain ⟨W1, hW1⟩ : ∃ W, w.alloc (.cells #[.int .i64 1, .int .i64 1, .int .i64 24, .int .i64 7, .int .i64 2, .int .i64 0, .int .i64 38, .int .i64 7, .int .i64 28, .int .i64 0] 37) = W := ⟨_, rfl⟩
  have HB1 : Hid (Below w.heap.size w W1) := Lib.hid (by rw [← hW1]; exact bl_one w _)
  have HR1 : Hid (Reads Cd.ins.seq W1 (.slice (some ⟨w.heap.size, 0, none⟩) 5 5) exL) := Lib.hid (reads_bk (l := exL) (by rw [← hW1]; exact BK.new w _ _) (by intro x hx; simp [exL] at hx; rcases hx with rfl | rfl | rfl | rfl | rfl <;> exact ⟨by unfold Wf; simp, by unfold Wf; simp⟩) (by decide))
  have HAS := Lib.hid (asmOk _ exL W1 HR1.out (by decide) ex_wrong)
  clear htab
  go_enter Tryd.func10, Tryd.ntmps10
  go_wp2_with fail
  refine HAS.out.mono ?_
  rintro e w2 ⟨b, v2, hb, rfl, ho2, hb2⟩
  rw [ex_asm] at hb
  cases hb
  obtain ⟨a2, c2, hv2⟩ := ow_shape ho2
  have hl6 : ([5, 1, 97, 1, 8, 112] : List UInt8).length = 6 := rfl
  rw [hl6] at hv2
  subst hv2
  have HO2 := Lib.hid ho2
  have HB2 := Lib.hid (bl_thenA HB1.out hb2)
  have H12 := Lib.hid hb2
  have HR2 := Lib.hid (OwB.reads ho2 (by decide))
  have HDS := Lib.hid (disC _ _ w2 HR2.out (by decide))
  rw [ex_dis] at HDS
  have HW1 := Lib.hid hW1
  clear ho2 hb2 hl6 hW1
  go_wp2_with fail
  refine HDS.out.mono ?_
  rintro e w3 ⟨hb3, v3, rfl, ho3⟩
  rw [ex_norm] at ho3
  have HR3 := Lib.hid (OwI.reads ho3 (by decide) (norm_wf (by intro x hx; simp at hx; rcases hx with rfl | rfl | rfl | rfl | rfl <;> decide)))
  obtain ⟨g3, c3, hv3, hlo3, hlt3⟩ := ho3.shape (by decide)
  have hl5 : ([⟨1, 1⟩, ⟨24, 0⟩, ⟨2, 0⟩, ⟨38, 0⟩, ⟨28, 0⟩] : List IN).length = 5 := rfl
  rw [hl5] at hv3
  subst hv3
  obtain ⟨aa, cc, hv3', hc3⟩ := ow_capI ho3
  rw [hl5] at hc3 hv3'
  have hcc : c3 = cc := by simp at hv3'; exact hv3'.2
  subst hcc
  obtain ⟨x0, x1, _⟩ := ho3.cells hl5 1 (by decide)
  obtain ⟨y0, y1, _⟩ := ho3.cells hl5 3 (by decide)
  have HX1 := Lib.hid x1
  have HY0 := Lib.hid y0
  have HY1 := Lib.hid y1
  have HB3 := Lib.hid (bl_thenA HB2.out hb3)
  have H23 := Lib.hid hb3
  have HO3 := Lib.hid ho3
  have hcv := str_reads (HR2.out.below hb3)
  have hcv2 : ∀ w : World, (convert 27 9 (.slice (some ⟨w.heap.size, 0, none⟩) 6 6)).run Tryd.prog (w.alloc (.cells #[.int .u8 5, .int .u8 1, .int .u8 97, .int .u8 1, .int .u8 8, .int .u8 112] 5)) = .ok (.string (mkB [5, 1, 97, 1, 8, 112])) (w.alloc (.cells #[.int .u8 5, .int .u8 1, .int .u8 97, .int .u8 1, .int .u8 8, .int .u8 112] 5)) := fun w =>
    run_convert_bytes_back _ _ _ 5 ⟨w.heap.size, 0, none⟩ 6 [5, 1, 97, 1, 8, 112] Tryd.underlying27 Tryd.underlying5 Tryd.underlying9 (litB w [5, 1, 97, 1, 8, 112])
  have hq5 : (5 : Nat) ≤ 5 := Nat.le_refl _
  clear ho3 hb3 x0 x1 y0 y1 hv3' hl5
  obtain ⟨W4, hW4⟩ : ∃ W, w3.alloc (.cells #[.int .u8 5, .int .u8 1, .int .u8 97, .int .u8 1, .int .u8 8, .int .u8 112] 5) = W := ⟨_, rfl⟩
  have H34 : Hid (Below w3.heap.size w3 W4) := Lib.hid (by rw [← hW4]; exact bl_one w3 _)
  have hcv3 := hcv2 w3
  rw [hW4] at hcv3
  clear hcv2
  go_wp2_with fail
  refine (normC _ exL _ (((HR1.out.below H12.out).below H23.out).below H34.out) (by decide)).mono ?_
  rintro e w5 ⟨v5, rfl, ho5, hb5⟩
  rw [ex_norm] at ho5
  have HR5 := Lib.hid (OwI.reads ho5 (by decide) (norm_wf (by intro x hx; simp at hx; rcases hx with rfl | rfl | rfl | rfl | rfl <;> decide)))
  have H35 := Lib.hid (bl_thenA H34.out hb5)
  clear ho5 hb5
  go_wp2_with fail
  refine (sameC _ _ _ _ (HR3.out.below H35.out) HR5.out).mono ?_
  rintro e w6 ⟨rfl, q, rfl⟩
  have H36 := Lib.hid (bl_drewN H35.out q)
  have x1 : (w5.drewN q).cell? ⟨g3, 1 * 2 + 1, none⟩ = some (.int .i64 0) := (H36.out.cell (p := ⟨g3, 1 * 2 + 1, none⟩) hlt3).trans HX1.out
  have y0 : (w5.drewN q).cell? ⟨g3, 3 * 2, none⟩ = some (.int .i64 38) := (H36.out.cell (p := ⟨g3, 3 * 2, none⟩) hlt3).trans HY0.out
  have y1 : (w5.drewN q).cell? ⟨g3, 3 * 2 + 1, none⟩ = some (.int .i64 0) := (H36.out.cell (p := ⟨g3, 3 * 2 + 1, none⟩) hlt3).trans HY1.out
  have HRP := Lib.hid (reads_one (x := ⟨38, 0⟩) (c := c3 - 3) y0 y1 (by omega) ⟨by unfold Wf; simp, by unfold Wf; simp⟩)
  have HPR := Lib.hid (printC _ _ (w5.drewN q) HRP.out (by decide) (tab_belowA HTab.out (HB3.out.trans (H36.out.mono HB3.out.size))))
  rw [ex_print] at HPR
  have HB6 := Lib.hid (HB3.out.trans (H36.out.mono HB3.out.size))
  clear y0 y1
  go_wp2_with fail
  refine HPR.out.mono ?_
  rintro e w7 ⟨rfl, hb7⟩
  go_wp2_with fail
  go_ret
  exact ⟨rfl, bl_thenA HB6.out hb7⟩
end Go.Proofs.YtbcpopakdlplgaaDoor
