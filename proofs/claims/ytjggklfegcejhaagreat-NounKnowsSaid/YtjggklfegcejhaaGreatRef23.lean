/- Contracts of clewref19's within and listed.; Contract of clewref19's Nested. -/
import Derived.Test.YtjggklfegcejhaaGreatRef21
import Derived.Test.YtjggklfegcejhaaGreatFitsA
import Derived.Test.YtjggklfegcejhaaGreatGrow
namespace Go.Proofs.YtjggklfegcejhaaGreat
open Go.RowKit Go.PlainAid
set_option linter.unusedVariables false
set_option linter.unusedSimpArgs false

theorem Ints.at2 {w : World} {a : Option Addr} {m c : Nat} {L : List Int} (h : Ints w (.slice a m c) L) (hi : 0 < L.length) : ∃ b o, a = some ⟨b, o, none⟩ ∧ b < w.heap.size ∧ ∀ i (h : i < L.length), w.cell? ⟨b, o + i, none⟩ = some (.int .i64 L[i]) := by
  obtain ⟨a', c', e, hm, h⟩ := h
  simp only [Value.slice.injEq] at e
  obtain ⟨rfl, _, _⟩ := e
  exact h hi
set_option maxRecDepth 100000 in
set_option maxHeartbeats 4000000 in
theorem ref19within (q : Wv) (d : WdC) (x y : Int) (n : Nat) (w : World) (hw : WIs w q d) (hl : WLen q d n) :
    Calls Tryz.prog 93 #[worldV q, .int .i64 x, .int .i64 y] w (IffW (y ∈ upsW d.pa n n x) w) := by
  have hnum := hw.nums hl
  have HI := Lib.hid (fun c w' => ref19is q c w' (by rw [hl.h1]; exact hl.few))
  rw [hl.h1] at HI
  have hnew := OneBx.new q w
  obtain ⟨W0, hW0⟩ : ∃ W0, w.alloc (.cells (worldC q).toArray 31) = W0 := ⟨_, rfl⟩
  rw [hW0] at hnew
  have h1 := hl.h1
  have hm := hl.few
  unfold maxLen at hm
  have HPA := Lib.hid hw.pa
  have HN := Lib.hid hnum.1
  have HU : Hid (∃ U, upsW d.pa n n x = U) := Lib.hid ⟨_, rfl⟩
  obtain ⟨U, hU⟩ := HU.out
  rw [hU]
  have HU := Lib.hid hU
  clear hw hl hnum hU
  have HB := Lib.hid hnew
  have HBw := Lib.hid hnew.bw
  clear hnew
  obtain ⟨a0, a1, a2, a3, a4, a5, a6, l0, l1, l2, l3, l4, l5, l6, c0, c1, c2, c3, c4, c5, c6, s, sc, tu, ov, it, go⟩ := q
  simp only at h1
  subst h1
  obtain ⟨b0, b1, b2, b3, b4, b5, b6, b7, b8, b9, bA, bB, bC⟩ := wd13 (HBw.out)
  unfold worldV at *
  go_enter Tryz.func93, Tryz.ntmps93
  unfold worldC at HI hW0 ⊢
  try simp only at HI
  try simp only at hW0
  try simp only
  go_wp2_with fail
  clear hW0
  clear b0 b1 b2 b3 b4 b5 b6 b7 b8 b9 bA bB bC
  go_loopw [1, 7] (fun cv iv wr => ∃ (i : Nat) (pre : List Int) (c : Int), cv = .int .i64 c ∧ iv = .int .i64 i ∧ i ≤ l1 ∧ Hid (U = pre ++ upsW d.pa l1 (l1 - i) c) ∧ Hid (y ∉ pre) ∧ Hid (OneBx ⟨a0, a1, a2, a3, a4, a5, a6, l0, l1, l2, l3, l4, l5, l6, c0, c1, c2, c3, c4, c5, c6, s, sc, tu, ov, it, go⟩ w wr)) (fun _ iv _ => l1 - (intOf iv).toNat)
  case atStart => exact ⟨0, [], x, rfl, rfl, Nat.zero_le _, Lib.hid (by rw [← HU.out]; rfl), Lib.hid (by simp), HB⟩
  case round =>
    obtain ⟨i, pre, c, rfl, rfl, hil, HP, HNM, HBR⟩ := hrel
    have HBRw := Lib.hid HBR.out.bw
    obtain ⟨b0, b1, b2, b3, b4, b5, b6, b7, b8, b9, bA, bB, bC⟩ := wd13 (HBRw.out)
    by_cases hlt : i < l1
    · go_wp2_with fail
      refine (HI.out _ _).mono ?_
      rintro e w2 ⟨rfl, hb2⟩
      have HB2 := Lib.hid (HBR.out.below hb2)
      have HB2w := Lib.hid HB2.out.bw
      clear hb2
      clear b0 b1 b2 b3 b4 b5 b6 b7 b8 b9 bA bB bC
      obtain ⟨b0, b1, b2, b3, b4, b5, b6, b7, b8, b9, bA, bB, bC⟩ := wd13 (HB2w.out)
      cases hc : isW l1 c with
      | false =>
        have HE : Hid (U = pre) := Lib.hid (by rw [HP.out, ups_no hc, List.append_nil])
        clear hc
        go_wp2_with fail
        go_ret
        exact IffW.f HB2.out.bl (by rw [HE.out]; exact HNM.out)
      | true =>
        have hlc := isW_lt hc
        obtain ⟨bp, op, hap, hbp, hcp, _⟩ := (HPA.out.below HB2.out.bl).at_ (i := c.toNat) (by rw [HN.out]; exact hlc.1)
        have hcx := hcp c.toNat (by rw [HN.out]; exact hlc.1)
        have HE : Hid (U = (pre ++ [c]) ++ upsW d.pa l1 (l1 - (i + 1)) (d.pa[c.toNat]'(by rw [HN.out]; exact hlc.1))) := Lib.hid (by
          rw [HP.out, show l1 - i = (l1 - (i + 1)) + 1 by omega, ups_yes hc, atW_get (by rw [HN.out]; exact hlc.1)]; simp)
        generalize d.pa[c.toNat]'(by rw [HN.out]; exact hlc.1) = v1 at hcx HE
        obtain ⟨hc1, hc2, hc3⟩ := hlc
        subst hap
        clear hc hcp
        by_cases hxy : c = y
        · have hq : (c == y) = true := by simpa using hxy
          have HXY := Lib.hid hxy
          clear hxy
          go_wp2_with fail
          go_ret
          exact IffW.t HB2.out.bl (by rw [HE.out, ← HXY.out]; simp)
        · have hq : (c == y) = false := by simpa using hxy
          have HXY := Lib.hid hxy
          clear hxy
          go_wp2_with fail
          go_roundw
          case rel => exact ⟨i + 1, pre ++ [c], v1, rfl, by go_num, by omega, HE, Lib.hid (by simp; exact ⟨HNM.out, Ne.symm HXY.out⟩), HB2⟩
          case measure => simp [intOf]; omega
    · have HE : Hid (U = pre) := Lib.hid (by rw [HP.out, show l1 - i = 0 by omega, upsW, List.append_nil])
      go_wp2_with fail
      go_ret
      exact IffW.f HBR.out.bl (by rw [HE.out]; exact HNM.out)
set_option maxRecDepth 100000 in
set_option maxHeartbeats 4000000 in
theorem ref19listed (q : Wv) (d : WdC) (x : Int) (n : Nat) (w : World) (hw : WIs w q d) (hl : WLen q d n) (hnn : n ≤ 1000000) (hx : isW n x = true) :
    Calls Tryz.prog 90 #[worldV q, .int .i64 x] w (OneW (∀ c ∈ kidsW d.ch d.nx n x, atW d.pa c = x ∧ countI (kidsW d.ch d.nx n x) c = 1) w) := by
  have hnum := hw.nums hl
  have HKI := Lib.hid (fun w' (hb : Below w.heap.size w w') => ref19Kids q d x n w' (hw.below hb) hl hnn)
  have hnew := OneBx.new q w
  obtain ⟨W0, hW0⟩ : ∃ W0, w.alloc (.cells (worldC q).toArray 31) = W0 := ⟨_, rfl⟩
  rw [hW0] at hnew
  have h1 := hl.h1
  have h2 := hl.h2
  have h3 := hl.h3
  have HPA := Lib.hid hw.pa
  have HCH := Lib.hid hw.ch
  have HNX := Lib.hid hw.nx
  have HN := Lib.hid hnum
  have HL : Hid (∀ c ∈ kidsW d.ch d.nx n x, isW n c = true) := Lib.hid (fun c hc => kids_is hc)
  have HM : (kidsW d.ch d.nx n x).length ≤ 1000000 := kids_len1 _ _ _ _ hnn
  obtain ⟨hx0, hx1, hx2⟩ := isW_lt hx
  generalize kidsW d.ch d.nx n x = L at *
  clear hw hl hnum hx
  have HB := Lib.hid hnew
  have HBw := Lib.hid hnew.bw
  clear hnew
  obtain ⟨a0, a1, a2, a3, a4, a5, a6, l0, l1, l2, l3, l4, l5, l6, c0, c1, c2, c3, c4, c5, c6, s, sc, tu, ov, it, go⟩ := q
  simp only at h1 h2 h3
  subst h1
  subst h2
  subst h3
  obtain ⟨b0, b1, b2, b3, b4, b5, b6, b7, b8, b9, bA, bB, bC⟩ := wd13 (HBw.out)
  unfold worldV at *
  go_enter Tryz.func90, Tryz.ntmps90
  unfold worldC at HKI hW0 ⊢
  try simp only at HKI
  try simp only at hW0
  try simp only
  go_wp2_with fail
  clear hW0
  refine (HKI.out _ HB.out.bl).mono ?_
  rintro e w1 ⟨v, rfl, g1, g2⟩
  obtain ⟨a, cc, rfl⟩ := g1.shape
  have HIN := Lib.hid (g1.ints (by unfold maxLen; omega))
  have HB1 := Lib.hid (HB.out.below g2)
  clear g1 g2
  clear b0 b1 b2 b3 b4 b5 b6 b7 b8 b9 bA bB bC
  obtain ⟨m, hm⟩ : ∃ m, L.length = m := ⟨_, rfl⟩
  have HLM := Lib.hid hm
  rw [hm] at HIN HM ⊢
  clear hm
  go_wp2_with fail
  go_loopw [6] (fun iv wr => ∃ (i : Nat), iv = .int .i64 i ∧ i ≤ m ∧ Hid (∀ c ∈ L.take i, atW d.pa c = x ∧ countI L c = 1) ∧ Hid (OneBx ⟨a0, a1, a2, a3, a4, a5, a6, l0, l3, l3, l3, l4, l5, l6, c0, c1, c2, c3, c4, c5, c6, s, sc, tu, ov, it, go⟩ w wr) ∧ Hid (Ints wr (.slice a m cc) L)) (fun iv _ => m - (intOf iv).toNat)
  case atStart => exact ⟨0, rfl, Nat.zero_le _, Lib.hid (by simp), HB1, HIN⟩
  case round =>
    clear HB HBw HB1 HIN
    obtain ⟨i, rfl, hil, HP, HBR, HIN⟩ := hrel
    have HBRw := Lib.hid HBR.out.bw
    have hlt0 : w.heap.size < wr.heap.size := HBR.out.bw.lt
    obtain ⟨b0, b1, b2, b3, b4, b5, b6, b7, b8, b9, bA, bB, bC⟩ := wd13 (HBRw.out)
    by_cases hlt : i < m
    · have HCT := Lib.hid (fun w' (hb : Below wr.heap.size wr w') (z : Int) => by have := ref19count _ L z w' (HIN.out.below hb); exact this)
      have hiL : i < L.length := by rw [HLM.out]; exact hlt
      obtain ⟨b, o, rfl, hb, hcs⟩ := HIN.out.at2 (by omega)
      have hci := hcs i hiL
      have HMem : Hid (L[i] ∈ L) := Lib.hid (List.getElem_mem _)
      have hci1 := isW_lt (HL.out _ HMem.out)
      have HTk : Hid ((∀ c ∈ L.take i, atW d.pa c = x ∧ countI L c = 1) → (atW d.pa L[i] = x ∧ countI L L[i] = 1) → ∀ c ∈ L.take (i + 1), atW d.pa c = x ∧ countI L c = 1) := Lib.hid (fun h1 h2 => take_all hiL h1 h2)
      have HCT2 := HCT.out
      generalize L[i] = c at *
      have HCT := Lib.hid (fun w' hb => HCT2 w' hb c)
      clear HCT2 hcs HMem
      generalize countI L c = kk at *
      obtain ⟨bp, op, hap, hbp, hcp, _⟩ := (HPA.out.below HBR.out.bl).at_ (i := c.toNat) (by rw [HN.out.1]; exact hci1.1)
      have hcx := hcp c.toNat (by rw [HN.out.1]; exact hci1.1)
      have HA : Hid (atW d.pa c = d.pa[c.toNat]'(by rw [HN.out.1]; exact hci1.1)) := Lib.hid (atW_get (by rw [HN.out.1]; exact hci1.1))
      generalize d.pa[c.toNat]'(by rw [HN.out.1]; exact hci1.1) = v1 at hcx HA
      obtain ⟨hc1, hc2, hc3⟩ := hci1
      subst hap
      clear hcp hiL
      by_cases hv : v1 = x
      · have HV := Lib.hid hv
        subst hv
        go_wp2_with fail
        refine region_text (fun w' => Below wr.heap.size wr w') (by kernel_rfl) (by kernel_rfl) ((Below.refl _ _).drew) (fun KK hKK => ?_)
        intro OPS
        try simp only [List.append]
        repeat (first
          | (refine' inText_val ?_ ?_ ?_ ?_
             rotate_left 2
             · rfl
             · (intro w' hS; obtain ⟨hcc, hff⟩ := bcell hS; go_simp; first | with_reducible rfl | (rw [if_neg (by omega)]; done) | (rw [if_neg (by omega)]; with_reducible rfl) | skip)
             · (simp only [Act.put, List.setIfInBounds_toArray, List.set_cons_zero, List.set_cons_succ]; with_reducible rfl))
          | (refine' inText_skip ?_ ?_ ?_
             rotate_left 1
             · rfl
             · (simp only [Act.put, List.setIfInBounds_toArray, List.set_cons_zero, List.set_cons_succ]; with_reducible rfl))
          | (refine' inText_call ?_ ?_ ?_ ?_ ?_
             rotate_left 4
             · rfl
             · (intro w' hS; obtain ⟨hcc, hff⟩ := bcell hS; go_simp; exact ⟨rfl, rfl⟩)
             · (intro w' hS
                (with_reducible refine (HCT.out w' hS).mono ?_); exact fun e w'' h => ⟨h.1, by rw [← h.2]; exact hS⟩)
             · (simp only [Act.put, List.setIfInBounds_toArray, List.set_cons_zero, List.set_cons_succ]; with_reducible rfl)))
        refine inText_nil (hKK.out _ (fun w' hS => ?_))
        have HB9 := Lib.hid (HBR.out.below hS)
        have HI9 := Lib.hid (HIN.out.below hS)
        clear hS hKK HCT
        clear b0 b1 b2 b3 b4 b5 b6 b7 b8 b9 bA bB bC
        by_cases hk : (kk : Int) = 1
        · have hq : ((kk : Int) != 1) = false := by simpa using hk
          go_wp2_with fail
          go_roundw
          case rel => exact ⟨i + 1, by go_num, by omega, Lib.hid (HTk.out HP.out ⟨by rw [HA.out], by omega⟩), HB9, HI9⟩
          case measure => simp [intOf]; omega
        · have hq : ((kk : Int) != 1) = true := by simpa using hk
          go_wp2_with fail
          go_ret
          exact OneW.f HB9.out.bl
      · have hq : (v1 != x) = true := by simpa using hv
        have HV := Lib.hid hv
        clear hv
        go_wp2_with fail
        refine region_text (fun w' => Below wr.heap.size wr w') (by kernel_rfl) (by kernel_rfl) ((Below.refl _ _).drew) (fun KK hKK => ?_)
        intro OPS
        try simp only [List.append]
        repeat (first
          | (refine' inText_val ?_ ?_ ?_ ?_
             rotate_left 2
             · rfl
             · (intro w' hS; obtain ⟨hcc, hff⟩ := bcell hS; go_simp; first | with_reducible rfl | (rw [if_neg (by omega)]; done) | (rw [if_neg (by omega)]; with_reducible rfl) | skip)
             · (simp only [Act.put, List.setIfInBounds_toArray, List.set_cons_zero, List.set_cons_succ]; with_reducible rfl))
          | (refine' inText_skip ?_ ?_ ?_
             rotate_left 1
             · rfl
             · (simp only [Act.put, List.setIfInBounds_toArray, List.set_cons_zero, List.set_cons_succ]; with_reducible rfl))
          | (refine' inText_call ?_ ?_ ?_ ?_ ?_
             rotate_left 4
             · rfl
             · (intro w' hS; obtain ⟨hcc, hff⟩ := bcell hS; go_simp; exact ⟨rfl, rfl⟩)
             · (intro w' hS
                (with_reducible refine (HCT.out w' hS).mono ?_); exact fun e w'' h => ⟨h.1, by rw [← h.2]; exact hS⟩)
             · (simp only [Act.put, List.setIfInBounds_toArray, List.set_cons_zero, List.set_cons_succ]; with_reducible rfl)))
        refine inText_nil (hKK.out _ (fun w' hS => ?_))
        have HB9 := Lib.hid (HBR.out.below hS)
        clear hS hKK HCT
        clear b0 b1 b2 b3 b4 b5 b6 b7 b8 b9 bA bB bC
        go_wp2_with fail
        go_ret
        exact OneW.f HB9.out.bl
    · have HF : Hid (∀ c ∈ L, atW d.pa c = x ∧ countI L c = 1) := Lib.hid (take_full (by rw [HLM.out]; exact hlt) HP.out)
      obtain ⟨bq, oq, haq, hbq, hcq, _⟩ := (HCH.out.below HBR.out.bl).at_ (i := x.toNat) (by rw [HN.out.2.1]; exact hx0)
      have hcx := hcq x.toNat (by rw [HN.out.2.1]; exact hx0)
      generalize d.ch[x.toNat]'(by rw [HN.out.2.1]; exact hx0) = v1 at hcx
      subst haq
      clear hcq
      by_cases hm0 : m = 0
      · have hq : ¬ (0 < m) := by omega
        subst hm0
        go_wp2_with fail
        go_ret
        exact ⟨_, rfl, fun _ => HF.out, HBR.out.bl⟩
      · obtain ⟨k, rfl⟩ : ∃ k, m = k + 1 := ⟨m - 1, by omega⟩
        have hkL : k < L.length := by rw [HLM.out]; omega
        obtain ⟨b, o, rfl, hb, hcs⟩ := HIN.out.at2 (by omega)
        have hci := hcs k hkL
        have hci1 := isW_lt (HL.out _ (List.getElem_mem hkL))
        generalize L[k] = c at *
        obtain ⟨bp, op, hap, hbp, hcp, _⟩ := (HNX.out.below HBR.out.bl).at_ (i := c.toNat) (by rw [HN.out.2.2]; exact hci1.1)
        have hcx2 := hcp c.toNat (by rw [HN.out.2.2]; exact hci1.1)
        generalize d.nx[c.toNat]'(by rw [HN.out.2.2]; exact hci1.1) = v2 at hcx2
        obtain ⟨hc1, hc2, hc3⟩ := hci1
        subst hap
        clear hcp hcs hkL hm0
        have hkk1 : (k : Int) < (k : Int) + 1 := by omega
        have hwk : IntKind.i64.wrap (k : Int) = (k : Int) := IntWalk.i64_in _ (by omega)
        go_wp2_with fail
        refine region_text (fun w' => Below wr.heap.size wr w') (by kernel_rfl) (by kernel_rfl) ((Below.refl _ _).drew) (fun KK hKK => ?_)
        intro OPS
        try simp only [List.append]
        repeat (first
          | (refine' inText_val ?_ ?_ ?_ ?_
             rotate_left 2
             · rfl
             · (intro w' hS; obtain ⟨hcc, hff⟩ := bcell hS; go_simp; first | with_reducible rfl | (rw [if_neg (by omega)]; done) | (rw [if_neg (by omega)]; with_reducible rfl) | skip)
             · (simp only [Act.put, List.setIfInBounds_toArray, List.set_cons_zero, List.set_cons_succ]; with_reducible rfl))
          | (refine' inText_skip ?_ ?_ ?_
             rotate_left 1
             · rfl
             · (simp only [Act.put, List.setIfInBounds_toArray, List.set_cons_zero, List.set_cons_succ]; with_reducible rfl)))
        refine inText_nil (hKK.out _ (fun w' hS => ?_))
        have HB9 := Lib.hid (HBR.out.below hS)
        clear hS hKK
        clear b0 b1 b2 b3 b4 b5 b6 b7 b8 b9 bA bB bC
        go_wp2_with fail
        go_ret
        exact ⟨_, rfl, fun _ => HF.out, HB9.out.bl⟩
end Go.Proofs.YtjggklfegcejhaaGreat
namespace Go.Proofs.YtjggklfegcejhaaGreat
open Go.RowKit Go.PlainAid
set_option linter.unusedVariables false
set_option linter.unusedSimpArgs false

structure NestOk (q : Wv) (d : WdC) : Prop where
  pos : 1 ≤ q.l1
  h2 : q.l2 = q.l1
  h3 : q.l3 = q.l1
  nest : NestedP d.pa d.ch d.nx q.l1
  dup : ∀ x, (kidsW d.ch d.nx q.l1 x).Nodup
def EachW (d : WdC) (n : Nat) (x : Int) : Prop := (∀ c ∈ kidsW d.ch d.nx n x, atW d.pa c = x ∧ countI (kidsW d.ch d.nx n x) c = 1) ∧ (isW n (atW d.pa x) = true → x ∉ upsW d.pa n n (atW d.pa x))
theorem nodup_count : ∀ (l : List Int), (∀ c ∈ l, countI l c = 1) → l.Nodup
  | [], _ => List.nodup_nil
  | a :: t, h => by
    have ha : a ∉ t := fun hm => by
      have h1 := h a (by simp)
      unfold countI at h1
      rw [List.filter_cons_of_pos (by simp), List.length_cons] at h1
      have h2 : t.filter (fun y => y == a) = [] := List.length_eq_zero_iff.1 (by omega)
      have h3 : a ∈ t.filter (fun y => y == a) := List.mem_filter.2 ⟨hm, by simp⟩
      rw [h2] at h3; cases h3
    refine List.nodup_cons.2 ⟨ha, nodup_count t fun c hc => ?_⟩
    have h1 := h c (List.mem_cons_of_mem _ hc)
    unfold countI at h1 ⊢
    rwa [List.filter_cons_of_neg (by simp; intro e; subst e; exact ha hc)] at h1
theorem each_all {d : WdC} {n : Nat} (h : ∀ x, isW n x = true → EachW d n x) : NestedP d.pa d.ch d.nx n ∧ ∀ x, (kidsW d.ch d.nx n x).Nodup := by
  refine ⟨⟨fun x hx => ⟨fun c hc => ((h x hx).1 c hc).1, (h x hx).2⟩⟩, fun x => ?_⟩
  cases hx : isW n x with
  | true => exact nodup_count _ fun c hc => ((h x hx).1 c hc).2
  | false => rw [kids_no hx]; exact List.nodup_nil
set_option maxRecDepth 100000 in
set_option maxHeartbeats 4000000 in
theorem nestedBad (q : Wv) (p : Prop) (w : World) (h1 : q.l1 ≤ maxLen) (h2 : q.l2 ≤ maxLen) (h3 : q.l3 ≤ maxLen) (hz : q.l1 = 0 ∨ q.l2 ≠ q.l1 ∨ q.l3 ≠ q.l1) :
    Calls Tryz.prog 51 #[worldV q] w (OneW p w) := by
  have hnew := OneBx.new q w
  obtain ⟨W0, hW0⟩ : ∃ W0, w.alloc (.cells (worldC q).toArray 31) = W0 := ⟨_, rfl⟩
  rw [hW0] at hnew
  have HB := Lib.hid hnew
  have HBw := Lib.hid hnew.bw
  clear hnew
  unfold maxLen at h1 h2 h3
  obtain ⟨a0, a1, a2, a3, a4, a5, a6, l0, l1, l2, l3, l4, l5, l6, c0, c1, c2, c3, c4, c5, c6, s, sc, tu, ov, it, go⟩ := q
  simp only at h1 h2 h3 hz
  obtain ⟨b0, b1, b2, b3, b4, b5, b6, b7, b8, b9, bA, bB, bC⟩ := wd13 (HBw.out)
  unfold worldV at *
  go_enter Tryz.func51, Tryz.ntmps51
  unfold worldC at hW0 ⊢
  try simp only at hW0
  try simp only
  by_cases z1 : l1 = 0
  · subst z1
    go_wp2_with fail
    go_ret
    exact OneW.f HB.out.bl
  · have q1 : ((l1 : Int) == 0) = false := by simpa using z1
    by_cases z2 : l2 = l1
    · have z3 : l3 ≠ l1 := by rcases hz with h | h | h
                              · exact absurd h z1
                              · exact absurd z2 h
                              · exact h
      have q3 : ((l3 : Int) != (l1 : Int)) = true := by simp; omega
      subst z2
      go_wp2_with fail
      go_ret
      exact OneW.f HB.out.bl
    · have q2 : ((l2 : Int) != (l1 : Int)) = true := by simp; omega
      go_wp2_with fail
      go_ret
      exact OneW.f HB.out.bl
set_option maxRecDepth 100000 in
set_option maxHeartbeats 8000000 in
theorem nestedGood (q : Wv) (d : WdC) (n : Nat) (w : World) (hw : WIs w q d) (hl : WLen q d n) (hn : 0 < n) (hnn : n ≤ 1000000) :
    Calls Tryz.prog 51 #[worldV q] w (OneW (NestedP d.pa d.ch d.nx n ∧ ∀ x, (kidsW d.ch d.nx n x).Nodup) w) := by
  have hnum := hw.nums hl
  have HI := Lib.hid (fun c w' => ref19is q c w' (by rw [hl.h1]; exact hl.few))
  rw [hl.h1] at HI
  have HLs := Lib.hid (fun c w' (hb : Below w.heap.size w w') (h : isW n c = true) => ref19listed q d c n w' (hw.below hb) hl hnn h)
  have HK := Lib.hid (fun c w' (hb : Below w.heap.size w w') => ref19Kids q d c n w' (hw.below hb) hl hnn)
  have HWI := Lib.hid (fun c y w' (hb : Below w.heap.size w w') => ref19within q d c y n w' (hw.below hb) hl)
  have HKL : Hid (∀ x, (kidsW d.ch d.nx n x).length ≤ maxLen) := Lib.hid (fun x => Nat.le_trans (kids_len1 _ _ _ _ hnn) (by unfold maxLen; omega))
  have hnew := OneBx.new q w
  obtain ⟨W0, hW0⟩ : ∃ W0, w.alloc (.cells (worldC q).toArray 31) = W0 := ⟨_, rfl⟩
  rw [hW0] at hnew
  have h1 := hl.h1
  have h2 := hl.h2
  have h3 := hl.h3
  have HPA := Lib.hid hw.pa
  have HCH := Lib.hid hw.ch
  have HNX := Lib.hid hw.nx
  have HN := Lib.hid hnum
  have HB := Lib.hid hnew
  have HBw := Lib.hid hnew.bw
  obtain ⟨bp, op, hap, hbp, hcp, _⟩ := hw.pa.at_ (i := 0) (by rw [hnum.1]; exact hn)
  obtain ⟨bc, oc, hac, hbc, hcc, _⟩ := hw.ch.at_ (i := 0) (by rw [hnum.2.1]; exact hn)
  obtain ⟨bn, on, han, hbn, hcn, _⟩ := hw.nx.at_ (i := 0) (by rw [hnum.2.2]; exact hn)
  have g1 := (hnew.bl.cell (p := ⟨bp, op + 0, none⟩) hbp).trans (hcp 0 (by rw [hnum.1]; exact hn))
  have g2 := (hnew.bl.cell (p := ⟨bc, oc + 0, none⟩) hbc).trans (hcc 0 (by rw [hnum.2.1]; exact hn))
  have g3 := (hnew.bl.cell (p := ⟨bn, on + 0, none⟩) hbn).trans (hcn 0 (by rw [hnum.2.2]; exact hn))
  rw [Nat.add_zero] at g1 g2 g3
  have HP1 : Hid (∀ j (h : j < n), ∀ w', Below w.heap.size w w' → w'.cell? ⟨bp, op + j, none⟩ = some (.int .i64 (atW d.pa (j : Int)))) := Lib.hid (fun j h w' hb => by
    rw [hb.cell (p := ⟨bp, op + j, none⟩) hbp, hcp j (by rw [hnum.1]; exact h), atW_get (by rw [hnum.1]; exact h)]; rfl)
  have HP3 : Hid (∀ j (h : j < n), ∀ w', Below w.heap.size w w' → w'.cell? ⟨bn, on + j, none⟩ = some (.int .i64 (atW d.nx (j : Int)))) := Lib.hid (fun j h w' hb => by
    rw [hb.cell (p := ⟨bn, on + j, none⟩) hbn, hcn j (by rw [hnum.2.2]; exact h), atW_get (by rw [hnum.2.2]; exact h)]; rfl)
  generalize d.pa[0]'(by rw [hnum.1]; exact hn) = v1 at g1
  generalize d.ch[0]'(by rw [hnum.2.1]; exact hn) = v2 at g2
  generalize d.nx[0]'(by rw [hnum.2.2]; exact hn) = v3 at g3
  clear hw hl hnew hcp hcc hcn
  obtain ⟨a0, a1, a2, a3, a4, a5, a6, l0, l1, l2, l3, l4, l5, l6, c0, c1, c2, c3, c4, c5, c6, s, sc, tu, ov, it, go⟩ := q
  simp only at h1 h2 h3 hap hac han
  subst h1
  subst h2
  subst h3
  subst hap
  subst hac
  subst han
  obtain ⟨b0, b1, b2, b3, b4, b5, b6, b7, b8, b9, bA, bB, bC⟩ := wd13 (HBw.out)
  unfold worldV at *
  go_enter Tryz.func51, Tryz.ntmps51
  unfold worldC at HI HLs HK HWI hW0 ⊢
  try simp only at HI
  try simp only at HLs
  try simp only at HK
  try simp only at HWI
  try simp only at hW0
  try simp only
  have q1 : ((l3 : Int) == 0) = false := by simp; omega
  by_cases z1 : v1 = 0
  · subst z1
    by_cases z2 : v2 = 0
    · subst z2
      by_cases z3 : v3 = 0
      · subst z3
        go_wp2_with fail
        clear hW0
        clear b0 b1 b2 b3 b4 b5 b6 b7 b8 b9 bA bB bC
        clear g1 g2 g3
        go_loopw [4] (fun iv wr => ∃ (i : Nat), iv = .int .i64 i ∧ 1 ≤ i ∧ i ≤ l3 ∧ Hid (∀ y : Int, 1 ≤ y → y < i → EachW d l3 y) ∧ Hid (OneBx ⟨a0, some ⟨bp, op, none⟩, some ⟨bc, oc, none⟩, some ⟨bn, on, none⟩, a4, a5, a6, l0, l3, l3, l3, l4, l5, l6, c0, c1, c2, c3, c4, c5, c6, s, sc, tu, ov, it, go⟩ w wr)) (fun iv _ => l3 - (intOf iv).toNat)
        case atStart => exact ⟨1, rfl, Nat.le_refl _, by omega, Lib.hid (fun y h1 h2 => by omega), HB⟩
        case round =>
          clear HB HBw
          obtain ⟨i, rfl, hi1, hil, HE, HBR⟩ := hrel
          have HBRw := Lib.hid HBR.out.bw
          obtain ⟨b0, b1, b2, b3, b4, b5, b6, b7, b8, b9, bA, bB, bC⟩ := wd13 (HBRw.out)
          by_cases hlt : i < l3
          · have HWi : Hid (isW l3 (i : Int) = true) := Lib.hid (isW_spec.2 (by omega))
            have gp := HP1.out i hlt _ HBR.out.bl
            have gn := HP3.out i hlt _ HBR.out.bl
            have HEE : Hid (EachW d l3 i → ∀ y : Int, 1 ≤ y → y < ((i + 1 : Nat) : Int) → EachW d l3 y) := Lib.hid (fun h y h1 h2 => if e : y = i then e ▸ h else HE.out y h1 (by omega))
            obtain ⟨v, hv⟩ : ∃ v, atW d.pa (i : Int) = v := ⟨_, rfl⟩
            rw [hv] at gp
            have HV := Lib.hid hv
            clear hv
            generalize atW d.nx (i : Int) = u at gn
            have hz0 : isW l3 0 = false := by unfold isW; simp
            by_cases hp : v = 0
            · subst hp
              by_cases hu : u = 0
              · subst hu
                go_wp2_with fail
                clear gp gn
                refine (HLs.out _ _ HBR.out.bl HWi.out).mono ?_
                rintro e w2 ⟨bl, rfl, hbl, hb2⟩
                have HBL := Lib.hid hbl
                clear hbl
                have HB2 := Lib.hid (HBR.out.below hb2)
                have HB2w := Lib.hid HB2.out.bw
                clear hb2
                clear b0 b1 b2 b3 b4 b5 b6 b7 b8 b9 bA bB bC
                obtain ⟨b0, b1, b2, b3, b4, b5, b6, b7, b8, b9, bA, bB, bC⟩ := wd13 (HB2w.out)
                cases bl with
                | false =>
                  go_wp2_with fail
                  go_ret
                  exact OneW.f HB2.out.bl
                | true =>
                  go_wp2_with fail
                  refine (HI.out _ _).mono ?_
                  rintro e w3 ⟨rfl, hb3⟩
                  rw [hz0]
                  have HZ := Lib.hid hz0
                  clear hz0
                  have HB3 := Lib.hid (HB2.out.below hb3)
                  have HB3w := Lib.hid HB3.out.bw
                  clear hb3
                  clear b0 b1 b2 b3 b4 b5 b6 b7 b8 b9 bA bB bC
                  obtain ⟨b0, b1, b2, b3, b4, b5, b6, b7, b8, b9, bA, bB, bC⟩ := wd13 (HB3w.out)
                  go_wp2_with fail
                  go_roundw
                  case rel => exact ⟨i + 1, by go_num, by omega, by omega, Lib.hid (HEE.out ⟨HBL.out trivial, fun h => by rw [HV.out, HZ.out] at h; cases h⟩), HB3⟩
                  case measure => simp [intOf]; omega
              · have qu : (u != 0) = true := by simpa using hu
                go_wp2_with fail
                go_ret
                exact OneW.f HBR.out.bl
            · have qp : (v != 0) = true := by simpa using hp
              have qp2 : (v == 0) = false := by simpa using hp
              go_wp2_with fail
              clear gp gn
              refine (HI.out _ _).mono ?_
              rintro e w2 ⟨rfl, hb2⟩
              have HB2 := Lib.hid (HBR.out.below hb2)
              have HB2w := Lib.hid HB2.out.bw
              clear hb2
              clear b0 b1 b2 b3 b4 b5 b6 b7 b8 b9 bA bB bC
              obtain ⟨b0, b1, b2, b3, b4, b5, b6, b7, b8, b9, bA, bB, bC⟩ := wd13 (HB2w.out)
              cases hz : isW l3 v with
              | false =>
                go_wp2_with fail
                go_ret
                exact OneW.f HB2.out.bl
              | true =>
                have HZ := Lib.hid hz
                clear hz hz0
                go_wp2_with fail
                refine (HLs.out _ _ HB2.out.bl HWi.out).mono ?_
                rintro e w3 ⟨bl, rfl, hbl, hb3⟩
                have HBL := Lib.hid hbl
                clear hbl
                have HB3 := Lib.hid (HB2.out.below hb3)
                have HB3w := Lib.hid HB3.out.bw
                clear hb3
                clear b0 b1 b2 b3 b4 b5 b6 b7 b8 b9 bA bB bC
                obtain ⟨b0, b1, b2, b3, b4, b5, b6, b7, b8, b9, bA, bB, bC⟩ := wd13 (HB3w.out)
                cases bl with
                | false =>
                  go_wp2_with fail
                  go_ret
                  exact OneW.f HB3.out.bl
                | true =>
                  go_wp2_with fail
                  refine (HK.out _ _ HB3.out.bl).mono ?_
                  rintro e w4 ⟨vv, rfl, k1, k2⟩
                  obtain ⟨a, cc, rfl⟩ := k1.shape
                  have HIN := Lib.hid (k1.ints (HKL.out v))
                  clear k1
                  have HB4 := Lib.hid (HB3.out.below k2)
                  have HB4w := Lib.hid HB4.out.bw
                  clear k2
                  clear b0 b1 b2 b3 b4 b5 b6 b7 b8 b9 bA bB bC
                  obtain ⟨b0, b1, b2, b3, b4, b5, b6, b7, b8, b9, bA, bB, bC⟩ := wd13 (HB4w.out)
                  go_wp2_with fail
                  refine (ref19count _ _ _ _ HIN.out).mono ?_
                  rintro e w5 ⟨rfl, rfl⟩
                  generalize countI (kidsW d.ch d.nx l3 v) (i : Int) = kk
                  generalize (kidsW d.ch d.nx l3 v).length = kl
                  by_cases hk : (kk : Int) = 1
                  · have qk : ((kk : Int) != 1) = false := by simpa using hk
                    clear hk
                    go_wp2_with fail
                    refine (HI.out _ _).mono ?_
                    rintro e w6 ⟨rfl, hb6⟩
                    rw [HZ.out]
                    have HB6 := Lib.hid (HB4.out.below hb6)
                    have HB6w := Lib.hid HB6.out.bw
                    clear hb6
                    clear b0 b1 b2 b3 b4 b5 b6 b7 b8 b9 bA bB bC
                    obtain ⟨b0, b1, b2, b3, b4, b5, b6, b7, b8, b9, bA, bB, bC⟩ := wd13 (HB6w.out)
                    go_wp2_with fail
                    refine (HWI.out _ _ _ HB6.out.bl).mono ?_
                    rintro e w7 ⟨b, rfl, hbi, hb7⟩
                    have HBI := Lib.hid hbi
                    clear hbi
                    have HB7 := Lib.hid (HB6.out.below hb7)
                    have HB7w := Lib.hid HB7.out.bw
                    clear hb7
                    clear b0 b1 b2 b3 b4 b5 b6 b7 b8 b9 bA bB bC
                    obtain ⟨b0, b1, b2, b3, b4, b5, b6, b7, b8, b9, bA, bB, bC⟩ := wd13 (HB7w.out)
                    cases b with
                    | true =>
                      go_wp2_with fail
                      go_ret
                      exact OneW.f HB7.out.bl
                    | false =>
                      go_wp2_with fail
                      go_roundw
                      case rel => exact ⟨i + 1, by go_num, by omega, by omega, Lib.hid (HEE.out ⟨HBL.out trivial, fun _ hm => by rw [HV.out] at hm; exact Bool.noConfusion (HBI.out.2 hm)⟩), HB7⟩
                      case measure => simp [intOf]; omega
                  · have qk : ((kk : Int) != 1) = true := by simpa using hk
                    go_wp2_with fail
                    go_ret
                    exact OneW.f HB4.out.bl
          · go_wp2_with fail
            go_ret
            exact OneW.t HBR.out.bl (each_all (fun x hx => HE.out x (isW_spec.1 hx).1 (by have := (isW_spec.1 hx).2; omega)))
      · have q4 : (v3 != 0) = true := by simpa using z3
        go_wp2_with fail
        go_ret
        exact OneW.f HB.out.bl
    · have q3 : (v2 != 0) = true := by simpa using z2
      go_wp2_with fail
      go_ret
      exact OneW.f HB.out.bl
  · have q2 : (v1 != 0) = true := by simpa using z1
    go_wp2_with fail
    go_ret
    exact OneW.f HB.out.bl
end Go.Proofs.YtjggklfegcejhaaGreat
