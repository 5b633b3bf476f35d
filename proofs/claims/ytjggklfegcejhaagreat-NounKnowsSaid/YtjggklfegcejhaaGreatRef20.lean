/- Contracts of clewref19's is, at, Children, within, top, count, listed, and of clewref20's. -/
import Derived.Test.YtjggklfegcejhaaGreatKids
import Derived.Test.YtjggklfegcejhaaGreatFitsA
namespace Go.Proofs.YtjggklfegcejhaaGreat
open Go.RowKit Go.PlainAid
set_option linter.unusedVariables false
set_option linter.unusedSimpArgs false

theorem ref19is (q : Wv) (x : Int) (w : World) (hm : q.l1 ≤ maxLen) :
    Calls Tryz.prog 89 #[worldV q, .int .i64 x] w fun e w' => e = .returned (.bool (isW q.l1 x)) ∧ Below w.heap.size w w' := by
  unfold worldV worldC
  unfold maxLen at hm
  obtain ⟨a0, a1, a2, a3, a4, a5, a6, l0, n, l2, l3, l4, l5, l6, c0, c1, c2, c3, c4, c5, c6, s, sc, tu, ov, it, go⟩ := q
  simp only at hm ⊢
  by_cases h1 : 1 ≤ x
  · by_cases h2 : x < (n : Int)
    · have h : isW n x = true := by unfold isW; simp [h1, h2]
      rw [h]
      clear h
      go_enter Tryz.func89, Tryz.ntmps89
      go_wp2
      go_ret
      exact ⟨rfl, bl_oneA _ _⟩
    · have h : isW n x = false := by unfold isW; simp [h2]
      rw [h]
      clear h
      go_enter Tryz.func89, Tryz.ntmps89
      go_wp2
      go_ret
      exact ⟨rfl, bl_oneA _ _⟩
  · have h : isW n x = false := by unfold isW; simp [h1]
    rw [h]
    clear h
    go_enter Tryz.func89, Tryz.ntmps89
    go_wp2
    go_ret
    exact ⟨rfl, bl_oneA _ _⟩
theorem ref20Is (q : Wv) (x : Int) (w : World) (hm : q.l1 ≤ maxLen) :
    Calls Tryz.prog 36 #[worldV q, .int .i64 x] w fun e w' => e = .returned (.bool (isW q.l1 x)) ∧ Below w.heap.size w w' := by
  unfold worldV worldC
  unfold maxLen at hm
  obtain ⟨a0, a1, a2, a3, a4, a5, a6, l0, n, l2, l3, l4, l5, l6, c0, c1, c2, c3, c4, c5, c6, s, sc, tu, ov, it, go⟩ := q
  simp only at hm ⊢
  by_cases h1 : 1 ≤ x
  · by_cases h2 : x < (n : Int)
    · have h : isW n x = true := by unfold isW; simp [h1, h2]
      rw [h]
      clear h
      go_enter Tryz.func36, Tryz.ntmps36
      go_wp2
      go_ret
      exact ⟨rfl, bl_oneA _ _⟩
    · have h : isW n x = false := by unfold isW; simp [h2]
      rw [h]
      clear h
      go_enter Tryz.func36, Tryz.ntmps36
      go_wp2
      go_ret
      exact ⟨rfl, bl_oneA _ _⟩
  · have h : isW n x = false := by unfold isW; simp [h1]
    rw [h]
    clear h
    go_enter Tryz.func36, Tryz.ntmps36
    go_wp2
    go_ret
    exact ⟨rfl, bl_oneA _ _⟩
theorem ref19at (a : Option Addr) (c : Nat) (l : List Int) (x : Int) (w : World) (h : RowI w (.slice a l.length c) l) (h0 : 0 ≤ x) (h1 : x < (l.length : Int)) :
    Calls Tryz.prog 121 #[.slice a l.length c, .int .i64 x] w fun e w' => e = .returned (.int .i64 (atW l x)) ∧ w = w' := by
  have hx : x.toNat < l.length := by omega
  obtain ⟨b, o, rfl, hb, hc, _⟩ := h.at_ hx
  have hcx := hc x.toNat hx
  rw [atW_get hx]
  generalize l[x.toNat] = m at *
  have hm := h.few
  unfold maxLen at hm
  clear h hc
  generalize l.length = n at *
  go_enter Tryz.func121, Tryz.ntmps121
  go_wp2
  go_ret
  exact ⟨rfl, rfl⟩
theorem int_newS (W : World) (u : Int) (T : TypeId) : ∀ j v, ([Value.int .i64 u] : List Value)[j]? = some v → (W.alloc (.cells #[.int .i64 u] T)).cell? ((⟨W.heap.size, 0, none⟩ : Addr).add j) = some v := news_lit W [.int .i64 u] T
/-- The world's box, in a later world. -/
structure OneBx (q : Wv) (w wr : World) : Prop where
  bw : BK wr w.heap.size (worldC q) 31
  bl : Below w.heap.size w wr
theorem OneBx.below {q : Wv} {w wr w' : World} (h : OneBx q w wr) (hb : Below wr.heap.size wr w') : OneBx q w w' := ⟨h.bw.below hb, h.bl.trans (hb.mono h.bl.size)⟩
theorem OneBx.new (q : Wv) (w : World) : OneBx q w (w.alloc (.cells (worldC q).toArray 31)) := ⟨BK.new w _ _, bl_oneA _ _⟩
theorem OneBx.app {q : Wv} {w wr w' : World} {v : Value} {l : List Int} (h : OneBx q w wr) (hr : OwnInts (w.heap.size + 1) wr v l) (hg : wr.grownBy w' v.ownBlock) : OneBx q w w' := by
  have hlo : ∀ j, v.ownBlock = some j → w.heap.size + 1 ≤ j := fun j hj => ow_lo hr.1 j hj
  exact ⟨h.bw.kept hg (fun j hj => by have := hlo j hj; omega), bl_g h.bl hg (fun j hj => by have := hlo j hj; omega)⟩
theorem info_intR : (Tryz.prog.info? 3).map (fun i => (i.zero, i.size, i.bytes)) = some (some (.int .i64 0), 1, 8) := by kernel_rfl
/-- It returns a list of one's own. -/
def RetIntsR (w : World) (l : List Int) (e : Ending) (w' : World) : Prop := ∃ v, e = .returned v ∧ OwnInts w.heap.size w' v l ∧ Below w.heap.size w w'
set_option maxRecDepth 100000 in
set_option maxHeartbeats 8000000 in
theorem ref19Kids (q : Wv) (d : WdC) (x : Int) (n : Nat) (w : World) (hw : WIs w q d) (hl : WLen q d n) (hnn : n ≤ 1000000) :
    Calls Tryz.prog 92 #[worldV q, .int .i64 x] w (RetIntsR w (kidsW d.ch d.nx n x)) := by
  have hnum := hw.nums hl
  have HI := Lib.hid (fun c w' => ref19is q c w' (by rw [hl.h1]; exact hl.few))
  rw [hl.h1] at HI
  have HC := Lib.hid (fun c w' (hb : Below w.heap.size w w') (h : isW n c = true) => ref19at q.a2 q.c2 d.ch c w' (by have := hw.ch.below hb; rwa [hw.ch.len] at this) (by have := isW_lt h; omega) (by have := isW_lt h; rw [hnum.2.1]; omega))
  have HX := Lib.hid (fun c w' (hb : Below w.heap.size w w') (h : isW n c = true) => ref19at q.a3 q.c3 d.nx c w' (by have := hw.nx.below hb; rwa [hw.nx.len] at this) (by have := isW_lt h; omega) (by have := isW_lt h; rw [hnum.2.2]; omega))
  rw [hnum.2.1] at HC
  rw [hnum.2.2] at HX
  have hnew := OneBx.new q w
  obtain ⟨W0, hW0⟩ : ∃ W0, w.alloc (.cells (worldC q).toArray 31) = W0 := ⟨_, rfl⟩
  rw [hW0] at hnew
  obtain ⟨i0, hi, hi1, hi2, hi3⟩ := info_parts info_intR
  have h1 := hl.h1
  have h2 := hl.h2
  have h3 := hl.h3
  have hn63 : n ≤ 1000000 := hnn
  have HK1 := Lib.hid (fun (h : isW n x = true) => kids_yes (ch := d.ch) (nx := d.nx) h)
  have HK0 := Lib.hid (fun (h : isW n x = false) => kids_no (ch := d.ch) (nx := d.nx) h)
  generalize kidsW d.ch d.nx n x = L at *
  clear hw hl hnum hnn
  have HB := Lib.hid hnew
  have HBw := Lib.hid hnew.bw
  clear hnew
  obtain ⟨a0, a1, a2, a3, a4, a5, a6, l0, l1, l2, l3, l4, l5, l6, c0, c1, c2, c3, c4, c5, c6, s, sc, tu, ov, it, go⟩ := q
  simp only at h1 h2 h3
  subst h1 h2 h3
  obtain ⟨b0, b1, b2, b3, b4, b5, b6, b7, b8, b9, bA, bB, bC⟩ := wd13 (HBw.out)
  unfold worldV at *
  go_enter Tryz.func92, Tryz.ntmps92
  unfold worldC at HI hW0 ⊢
  try simp only at HI
  try simp only at HC
  try simp only at HX
  try simp only at hW0
  try simp only
  go_wp2_with fail
  clear hW0
  refine (HI.out _ _).mono ?_
  rintro e w1 ⟨rfl, hb1⟩
  have HB1 := Lib.hid (HB.out.below hb1)
  have HB1w := Lib.hid HB1.out.bw
  clear hb1
  clear b0 b1 b2 b3 b4 b5 b6 b7 b8 b9 bA bB bC
  obtain ⟨b0, b1, b2, b3, b4, b5, b6, b7, b8, b9, bA, bB, bC⟩ := wd13 (HB1w.out)
  cases hx : isW l3 x with
  | false =>
    have HR := Lib.hid (HK0.out hx)
    go_wp2_with fail
    go_ret
    exact ⟨_, rfl, ⟨by rw [HR.out]; exact World.ownsRow_nil _ _ _ _, fun _ => rfl⟩, HB1.out.bl⟩
  | true =>
    have HR := Lib.hid (HK1.out hx)
    have HCx := Lib.hid (HC.out x w1 HB1.out.bl hx)
    clear HK1 HK0 HC hx
    go_wp2_with fail
    refine HCx.out.mono ?_
    rintro e w1' ⟨rfl, rfl⟩
    clear b0 b1 b2 b3 b4 b5 b6 b7 b8 b9 bA bB bC
    go_wp2_with fail
    go_loopw [5, 6, 7] (fun ov' cv iv wr => ∃ (i : Nat) (pre : List Int) (c : Int) (va : Option Addr) (vc : Nat), ov' = .slice va i vc ∧ cv = .int .i64 c ∧ iv = .int .i64 i ∧ i ≤ l3 ∧ Hid (pre.length = i) ∧ Hid (OwnInts (w.heap.size + 1) wr (.slice va i vc) pre) ∧ Hid (L = pre ++ chainW d.nx l3 (l3 - i) c) ∧ Hid (OneBx ⟨a0, a1, a2, a3, a4, a5, a6, l0, l3, l3, l3, l4, l5, l6, c0, c1, c2, c3, c4, c5, c6, s, sc, tu, ov, it, go⟩ w wr)) (fun _ _ iv _ => l3 - (intOf iv).toNat)
    case atStart => exact ⟨0, [], _, none, 0, rfl, rfl, rfl, Nat.zero_le _, Lib.hid rfl, Lib.hid ⟨World.ownsRow_nil _ _ _ _, fun _ => rfl⟩, Lib.hid (by rw [HR.out]; rfl), HB1⟩
    case round =>
      obtain ⟨i, pre, c, va, vc, rfl, rfl, rfl, hil, HPL, HOW, HL, HBR⟩ := hrel
      clear HB1 HB1w HCx HR
      have HBRw := Lib.hid HBR.out.bw
      obtain ⟨b0, b1, b2, b3, b4, b5, b6, b7, b8, b9, bA, bB, bC⟩ := wd13 (HBRw.out)
      by_cases hlt : i < l3
      · have hi63 : (i : Int) < 1000000 := by omega
        go_wp2_with fail
        refine (HI.out _ _).mono ?_
        rintro e w2 ⟨rfl, hb2⟩
        have HB2 := Lib.hid (HBR.out.below hb2)
        have HB2w := Lib.hid HB2.out.bw
        have HOW2 := Lib.hid (HOW.out.below hb2)
        clear hb2
        clear b0 b1 b2 b3 b4 b5 b6 b7 b8 b9 bA bB bC
        obtain ⟨b0, b1, b2, b3, b4, b5, b6, b7, b8, b9, bA, bB, bC⟩ := wd13 (HB2w.out)
        cases hc : isW l3 c with
        | false =>
          have HE : Hid (L = pre) := Lib.hid (by rw [HL.out, chain_no hc, List.append_nil])
          clear hc
          go_wp2_with fail
          go_ret
          exact ⟨_, rfl, by rw [HE.out]; exact HOW2.out.base (by omega), HB2.out.bl⟩
        | true =>
          have HXc := Lib.hid (fun w' (hb : Below w.heap.size w w') => HX.out c w' hb hc)
          have HE : Hid (L = (pre ++ [c]) ++ chainW d.nx l3 (l3 - (i + 1)) (atW d.nx c)) := Lib.hid (by
            rw [HL.out, show l3 - i = (l3 - (i + 1)) + 1 by omega, chain_yes hc]; simp)
          clear hc
          have hown : w2.ownsRow (w.heap.size + 1) 3 1 (.slice va i vc) i (pre.map (Value.int .i64)) := by have := HOW2.out.1; rwa [HPL.out] at this
          have HWN := Lib.hid (hown.alloc (.cells #[.int .i64 c] 3))
          have hz2 := HB2w.out.lt
          have HBA := Lib.hid (HB2.out.below (bl_oneA w2 (.cells #[.int .i64 c] 3)))
          clear hown
          go_wp2_with (at_builtin; refine wpList_append_own _ rfl _ _ 23 rfl (w.heap.size + 1) 3 i0 (.int .i64 0) 1 8 Tryz.underlying23 hi hi1 hi2 hi3 rfl (by decide) _ i (pre.map (Value.int .i64)) rfl HWN.out ⟨w2.heap.size, 0, none⟩ 1 1 [.int .i64 c] rfl rfl (int_newS _ _ _) (ow_one rfl) (by unfold maxLen; omega) (by omega) (by simp; omega) ?_; intro v3 w3 hown3 hgrow3 _; obtain ⟨g3, cap3, rfl⟩ := ownsRow_succ hown3; have HO3 : Hid (OwnInts (w.heap.size + 1) w3 (.slice (some ⟨g3, 0, none⟩) (i + 1) cap3) (pre ++ [c])) := Lib.hid ⟨by rw [List.length_append, HPL.out]; simpa using hown3, fun e => by simp at e⟩; have HB3 := Lib.hid (HBA.out.app (v := .slice va i vc) (l := pre) ⟨by rw [HPL.out]; exact HWN.out, (HOW2.out.2)⟩ hgrow3); have HB3w := Lib.hid HB3.out.bw; clear hown3 hgrow3; clear b0 b1 b2 b3 b4 b5 b6 b7 b8 b9 bA bB bC; have b3 := HB3w.out.cell 3; simp only [worldC, List.getElem?_cons_zero, List.getElem?_cons_succ] at b3)
          refine (HXc.out _ HB3.out.bl).mono ?_
          rintro e w4 ⟨rfl, rfl⟩
          clear b3
          go_wp2_with fail
          go_roundw
          case rel => exact ⟨i + 1, pre ++ [c], _, _, _, rfl, rfl, by go_num, by omega, Lib.hid (by rw [List.length_append, HPL.out]; rfl), HO3, HE, HB3⟩
          case measure => simp [intOf]; omega
      · have HE : Hid (L = pre) := Lib.hid (by rw [HL.out, show l3 - i = 0 by omega, chainW, List.append_nil])
        go_wp2_with fail
        go_ret
        exact ⟨_, rfl, by rw [HE.out]; exact HOW.out.base (by omega), HBR.out.bl⟩
end Go.Proofs.YtjggklfegcejhaaGreat
