/- Contracts of clewref19's top, within, count, and of clewref20's Top, Children. -/
import Derived.Test.YtjggklfegcejhaaGreatRef20
import Derived.Test.YtjggklfegcejhaaGreatTop
import Derived.Deep.AppendLies
namespace Go.Proofs.YtjggklfegcejhaaGreat
open Go.RowKit Go.PlainAid
set_option linter.unusedVariables false
set_option linter.unusedSimpArgs false

set_option maxRecDepth 100000 in
set_option maxHeartbeats 4000000 in
theorem ref19top (q : Wv) (d : WdC) (x : Int) (n : Nat) (w : World) (hw : WIs w q d) (hl : WLen q d n) :
    Calls Tryz.prog 94 #[worldV q, .int .i64 x] w fun e w' => e = .returned (.int .i64 (topOf d.pa n x)) ∧ Below w.heap.size w w' := by
  have hnum := hw.nums hl
  have HI := Lib.hid (fun c w' => ref19is q c w' (by rw [hl.h1]; exact hl.few))
  rw [hl.h1] at HI
  have hnew := OneBx.new q w
  obtain ⟨W0, hW0⟩ : ∃ W0, w.alloc (.cells (worldC q).toArray 31) = W0 := ⟨_, rfl⟩
  rw [hW0] at hnew
  have h1 := hl.h1
  have hm := hl.few
  unfold maxLen at hm
  have HPA := Lib.hid hw.pa
  have HN := Lib.hid hnum.1
  unfold topOf
  have HU : Hid (∃ U, upsW d.pa n n x = U) := Lib.hid ⟨_, rfl⟩
  obtain ⟨U, hU⟩ := HU.out
  rw [hU]
  have HU := Lib.hid hU
  clear hw hl hnum hU
  have HB := Lib.hid hnew
  have HBw := Lib.hid hnew.bw
  clear hnew
  obtain ⟨a0, a1, a2, a3, a4, a5, a6, l0, l1, l2, l3, l4, l5, l6, c0, c1, c2, c3, c4, c5, c6, s, sc, tu, ov, it, go⟩ := q
  simp only at h1
  subst h1
  obtain ⟨b0, b1, b2, b3, b4, b5, b6, b7, b8, b9, bA, bB, bC⟩ := wd13 (HBw.out)
  unfold worldV at *
  go_enter Tryz.func94, Tryz.ntmps94
  unfold worldC at HI hW0 ⊢
  try simp only at HI
  try simp only at hW0
  try simp only
  go_wp2_with fail
  clear hW0
  clear b0 b1 b2 b3 b4 b5 b6 b7 b8 b9 bA bB bC
  go_loopw [1, 5, 6] (fun cv tv iv wr => ∃ (i : Nat) (pre : List Int) (c : Int), cv = .int .i64 c ∧ tv = .int .i64 (pre.getLast?.getD 0) ∧ iv = .int .i64 i ∧ i ≤ l1 ∧ Hid (U = pre ++ upsW d.pa l1 (l1 - i) c) ∧ Hid (OneBx ⟨a0, a1, a2, a3, a4, a5, a6, l0, l1, l2, l3, l4, l5, l6, c0, c1, c2, c3, c4, c5, c6, s, sc, tu, ov, it, go⟩ w wr)) (fun _ _ iv _ => l1 - (intOf iv).toNat)
  case atStart => exact ⟨0, [], x, rfl, rfl, rfl, Nat.zero_le _, Lib.hid (by rw [← HU.out]; rfl), HB⟩
  case round =>
    obtain ⟨i, pre, c, rfl, rfl, rfl, hil, HP, HBR⟩ := hrel
    have HBRw := Lib.hid HBR.out.bw
    obtain ⟨b0, b1, b2, b3, b4, b5, b6, b7, b8, b9, bA, bB, bC⟩ := wd13 (HBRw.out)
    by_cases hlt : i < l1
    · go_wp2_with fail
      refine (HI.out _ _).mono ?_
      rintro e w2 ⟨rfl, hb2⟩
      have HB2 := Lib.hid (HBR.out.below hb2)
      have HB2w := Lib.hid HB2.out.bw
      clear hb2
      clear b0 b1 b2 b3 b4 b5 b6 b7 b8 b9 bA bB bC
      obtain ⟨b0, b1, b2, b3, b4, b5, b6, b7, b8, b9, bA, bB, bC⟩ := wd13 (HB2w.out)
      cases hc : isW l1 c with
      | false =>
        have HE : Hid (U = pre) := Lib.hid (by rw [HP.out, ups_no hc, List.append_nil])
        clear hc
        go_wp2_with fail
        go_ret
        exact ⟨by rw [HE.out]; rfl, HB2.out.bl⟩
      | true =>
        have hlc := isW_lt hc
        obtain ⟨bp, op, hap, hbp, hcp, _⟩ := (HPA.out.below HB2.out.bl).at_ (i := c.toNat) (by rw [HN.out]; exact hlc.1)
        have hcx := hcp c.toNat (by rw [HN.out]; exact hlc.1)
        have HE : Hid (U = (pre ++ [c]) ++ upsW d.pa l1 (l1 - (i + 1)) (d.pa[c.toNat]'(by rw [HN.out]; exact hlc.1))) := Lib.hid (by
          rw [HP.out, show l1 - i = (l1 - (i + 1)) + 1 by omega, ups_yes hc, atW_get (by rw [HN.out]; exact hlc.1)]; simp)
        generalize d.pa[c.toNat]'(by rw [HN.out]; exact hlc.1) = v1 at hcx HE
        obtain ⟨hc1, hc2, hc3⟩ := hlc
        subst hap
        clear hc hcp
        go_wp2_with fail
        go_roundw
        case rel => exact ⟨i + 1, pre ++ [c], v1, rfl, by simp, by go_num, by omega, HE, HB2⟩
        case measure => simp [intOf]; omega
    · have HE : Hid (U = pre) := Lib.hid (by rw [HP.out, show l1 - i = 0 by omega, upsW, List.append_nil])
      go_wp2_with fail
      go_ret
      exact ⟨by rw [HE.out]; rfl, HBR.out.bl⟩
set_option maxRecDepth 100000 in
set_option maxHeartbeats 4000000 in
theorem ref20Top (q : Wv) (d : WdC) (x : Int) (n : Nat) (w : World) (hw : WIs w q d) (hl : WLen q d n) :
    Calls Tryz.prog 72 #[worldV q, .int .i64 x] w fun e w' => e = .returned (.int .i64 (topOf d.pa n x)) ∧ Below w.heap.size w w' := by
  have hnum := hw.nums hl
  have HI := Lib.hid (fun c w' => ref20Is q c w' (by rw [hl.h1]; exact hl.few))
  rw [hl.h1] at HI
  have hnew := OneBx.new q w
  obtain ⟨W0, hW0⟩ : ∃ W0, w.alloc (.cells (worldC q).toArray 31) = W0 := ⟨_, rfl⟩
  rw [hW0] at hnew
  have h1 := hl.h1
  have hm := hl.few
  unfold maxLen at hm
  have HPA := Lib.hid hw.pa
  have HN := Lib.hid hnum.1
  unfold topOf
  have HU : Hid (∃ U, upsW d.pa n n x = U) := Lib.hid ⟨_, rfl⟩
  obtain ⟨U, hU⟩ := HU.out
  rw [hU]
  have HU := Lib.hid hU
  clear hw hl hnum hU
  have HB := Lib.hid hnew
  have HBw := Lib.hid hnew.bw
  clear hnew
  obtain ⟨a0, a1, a2, a3, a4, a5, a6, l0, l1, l2, l3, l4, l5, l6, c0, c1, c2, c3, c4, c5, c6, s, sc, tu, ov, it, go⟩ := q
  simp only at h1
  subst h1
  obtain ⟨b0, b1, b2, b3, b4, b5, b6, b7, b8, b9, bA, bB, bC⟩ := wd13 (HBw.out)
  unfold worldV at *
  go_enter Tryz.func72, Tryz.ntmps72
  unfold worldC at HI hW0 ⊢
  try simp only at HI
  try simp only at hW0
  try simp only
  go_wp2_with fail
  clear hW0
  clear b0 b1 b2 b3 b4 b5 b6 b7 b8 b9 bA bB bC
  go_loopw [1, 5, 6] (fun cv tv iv wr => ∃ (i : Nat) (pre : List Int) (c : Int), cv = .int .i64 c ∧ tv = .int .i64 (pre.getLast?.getD 0) ∧ iv = .int .i64 i ∧ i ≤ l1 ∧ Hid (U = pre ++ upsW d.pa l1 (l1 - i) c) ∧ Hid (OneBx ⟨a0, a1, a2, a3, a4, a5, a6, l0, l1, l2, l3, l4, l5, l6, c0, c1, c2, c3, c4, c5, c6, s, sc, tu, ov, it, go⟩ w wr)) (fun _ _ iv _ => l1 - (intOf iv).toNat)
  case atStart => exact ⟨0, [], x, rfl, rfl, rfl, Nat.zero_le _, Lib.hid (by rw [← HU.out]; rfl), HB⟩
  case round =>
    obtain ⟨i, pre, c, rfl, rfl, rfl, hil, HP, HBR⟩ := hrel
    have HBRw := Lib.hid HBR.out.bw
    obtain ⟨b0, b1, b2, b3, b4, b5, b6, b7, b8, b9, bA, bB, bC⟩ := wd13 (HBRw.out)
    by_cases hlt : i < l1
    · go_wp2_with fail
      refine (HI.out _ _).mono ?_
      rintro e w2 ⟨rfl, hb2⟩
      have HB2 := Lib.hid (HBR.out.below hb2)
      have HB2w := Lib.hid HB2.out.bw
      clear hb2
      clear b0 b1 b2 b3 b4 b5 b6 b7 b8 b9 bA bB bC
      obtain ⟨b0, b1, b2, b3, b4, b5, b6, b7, b8, b9, bA, bB, bC⟩ := wd13 (HB2w.out)
      cases hc : isW l1 c with
      | false =>
        have HE : Hid (U = pre) := Lib.hid (by rw [HP.out, ups_no hc, List.append_nil])
        clear hc
        go_wp2_with fail
        go_ret
        exact ⟨by rw [HE.out]; rfl, HB2.out.bl⟩
      | true =>
        have hlc := isW_lt hc
        obtain ⟨bp, op, hap, hbp, hcp, _⟩ := (HPA.out.below HB2.out.bl).at_ (i := c.toNat) (by rw [HN.out]; exact hlc.1)
        have hcx := hcp c.toNat (by rw [HN.out]; exact hlc.1)
        have HE : Hid (U = (pre ++ [c]) ++ upsW d.pa l1 (l1 - (i + 1)) (d.pa[c.toNat]'(by rw [HN.out]; exact hlc.1))) := Lib.hid (by
          rw [HP.out, show l1 - i = (l1 - (i + 1)) + 1 by omega, ups_yes hc, atW_get (by rw [HN.out]; exact hlc.1)]; simp)
        generalize d.pa[c.toNat]'(by rw [HN.out]; exact hlc.1) = v1 at hcx HE
        obtain ⟨hc1, hc2, hc3⟩ := hlc
        subst hap
        clear hc hcp
        go_wp2_with fail
        go_roundw
        case rel => exact ⟨i + 1, pre ++ [c], v1, rfl, by simp, by go_num, by omega, HE, HB2⟩
        case measure => simp [intOf]; omega
    · have HE : Hid (U = pre) := Lib.hid (by rw [HP.out, show l1 - i = 0 by omega, upsW, List.append_nil])
      go_wp2_with fail
      go_ret
      exact ⟨by rw [HE.out]; rfl, HBR.out.bl⟩
theorem ref20Kids (q : Wv) (d : WdC) (x : Int) (n : Nat) (w : World) (hw : WIs w q d) (hl : WLen q d n) (hnn : n ≤ 1000000) :
    Calls Tryz.prog 73 #[worldV q, .int .i64 x] w (RetIntsR w (kidsW d.ch d.nx n x)) := by
  have H := Lib.hid (ref19Kids q d x n (w.alloc (.cells (worldC q).toArray 31)) (hw.below (bl_oneA _ _)) hl hnn)
  generalize kidsW d.ch d.nx n x = L at *
  clear hw hl
  unfold worldV worldC at *
  go_enter Tryz.func73, Tryz.ntmps73
  go_wp2_with fail
  refine H.out.mono ?_
  rintro e w1 ⟨v, rfl, h1, h2⟩
  obtain ⟨a, c, rfl⟩ := h1.shape
  have H1 := Lib.hid h1
  have H2 := Lib.hid h2
  clear h1 h2
  go_wp2
  go_ret
  exact ⟨_, rfl, H1.out.base (bl_oneA w _).size, (bl_oneA w _).trans (H2.out.mono (bl_oneA w _).size)⟩
/-- A list of numbers, wherever it lies. -/
def Ints (w : World) (v : Value) (l : List Int) : Prop := ∃ a c, v = .slice a l.length c ∧ l.length ≤ maxLen ∧ (0 < l.length → ∃ b o, a = some ⟨b, o, none⟩ ∧ b < w.heap.size ∧ ∀ i (h : i < l.length), w.cell? ⟨b, o + i, none⟩ = some (.int .i64 l[i]))
theorem RowI.ints {w : World} {v : Value} {l : List Int} (h : RowI w v l) : Ints w v l := by
  obtain ⟨a, c, rfl, h1, h2, h3⟩ := h
  refine ⟨a, c, rfl, h1, fun hn => ?_⟩
  obtain ⟨b, o, e, hb, hc, _⟩ := RowI.at_ ⟨a, c, rfl, h1, h2, h3⟩ hn
  exact ⟨b, o, e, hb, hc⟩
theorem own_bd {w : World} {b k n c g : Nat} {e : TypeId} {xs : List Value} (h : w.ownsRow b e k (.slice (some ⟨g, 0, none⟩) n c) n xs) : b ≤ g ∧ g < w.heap.size := by
  rcases h.2 with ⟨h1, _⟩ | ⟨g', cap, cur, h3, h4, h5, _⟩
  · cases h1
  · simp at h3
    obtain ⟨rfl, _⟩ := h3
    exact ⟨h4, lt_of_block h5⟩
theorem OwnInts.ints {B : Nat} {w : World} {v : Value} {l : List Int} (h : OwnInts B w v l) (hm : l.length ≤ maxLen) : Ints w v l := by
  obtain ⟨a, c, rfl⟩ := h.shape
  refine ⟨a, c, rfl, hm, fun hn => ?_⟩
  obtain ⟨g, cap, e, hg, hlt⟩ := h.1.form hn
  simp at e
  obtain ⟨rfl, rfl⟩ := e
  refine ⟨g, 0, rfl, (own_bd h.1).2, fun i hi => ?_⟩
  rw [Nat.zero_add, h.1.cellAt i (by omega)]; simp [hi]
theorem Ints.below {w w' : World} {v : Value} {l : List Int} (h : Ints w v l) (hb : Below w.heap.size w w') : Ints w' v l := by
  obtain ⟨a, c, rfl, hm, h⟩ := h
  refine ⟨a, c, rfl, hm, fun hn => ?_⟩
  obtain ⟨b, o, e, hlt, hc⟩ := h hn
  exact ⟨b, o, e, Nat.lt_of_lt_of_le hlt hb.size, fun i hi => (hb.cell (p := ⟨b, o + i, none⟩) hlt).trans (hc i hi)⟩
set_option maxRecDepth 100000 in
theorem ref19count (v : Value) (l : List Int) (x : Int) (w : World) (h : Ints w v l) :
    Calls Tryz.prog 91 #[v, .int .i64 x] w fun e w' => e = .returned (.int .i64 (countI l x)) ∧ w = w' := by
  obtain ⟨a, c, rfl, hm, h⟩ := h
  have HH := Lib.hid h
  obtain ⟨m, hlm⟩ : ∃ m, l.length = m := ⟨_, rfl⟩
  have HM := Lib.hid hlm
  rw [hlm] at hm ⊢
  unfold maxLen at hm
  have HT : Hid (∀ i, countI (l.take i) x ≤ i) := Lib.hid (fun i => by
    unfold countI
    refine Nat.le_trans (List.length_filter_le _ _) ?_
    rw [List.length_take]; omega)
  clear h hlm
  go_enter Tryz.func91, Tryz.ntmps91
  go_wp2_with fail
  go_loop [5, 6] (fun kv iv => ∃ (i : Nat), kv = .int .i64 (countI (l.take i) x : Nat) ∧ iv = .int .i64 i ∧ i ≤ m) (fun _ iv => m - (intOf iv).toNat)
  case atStart => exact ⟨0, rfl, rfl, Nat.zero_le _⟩
  case round =>
    obtain ⟨i, rfl, rfl, hil⟩ := hrel
    have hct := HT.out i
    by_cases hlt : i < m
    · have hil2 : i < l.length := by rw [HM.out]; exact hlt
      obtain ⟨b, o, ha, hb, hc⟩ := HH.out (by omega)
      have hci := hc i hil2
      subst ha
      have hs : countI (l.take (i + 1)) x = countI (l.take i) x + (if l[i] = x then 1 else 0) := by
        unfold countI
        rw [List.take_succ_eq_append_getElem hil2, List.filter_append, List.length_append]
        congr 1
        by_cases h : l[i] = x <;> simp [h]
      have HS := Lib.hid hs
      generalize countI (l.take i) x = k at *
      generalize l[i] = y at *
      clear hc hs hil2
      by_cases hy : y = x
      · have hq : (y == x) = true := by simpa using hy
        subst hy
        go_wp2
        go_round
        case rel => exact ⟨i + 1, by rw [HS.out]; simp, by go_num, by omega⟩
        case measure => simp [intOf]; omega
      · have hq : (y == x) = false := by simpa using hy
        have HY := Lib.hid hy
        clear hy
        go_wp2
        go_round
        case rel => exact ⟨i + 1, by rw [HS.out, if_neg HY.out]; simp, by go_num, by omega⟩
        case measure => simp [intOf]; omega
    · have he : l.take i = l := List.take_of_length_le (by rw [HM.out]; omega)
      rw [he]
      clear he hct
      go_wp2
      go_ret
      exact ⟨rfl, rfl⟩
end Go.Proofs.YtjggklfegcejhaaGreat
