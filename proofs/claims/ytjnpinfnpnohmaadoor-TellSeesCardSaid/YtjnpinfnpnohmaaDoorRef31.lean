/- What is reached is no more than there is; contracts of clewref23's has, shows, Here.; Contract of clewref23.reached. -/
import Derived.Test.YtjnpinfnpnohmaaDoorRef21
import Derived.Test.YtjnpinfnpnohmaaDoorHas
import Derived.Test.YtjnpinfnpnohmaaDoorRef23
import Derived.Test.YtjnpinfnpnohmaaDoorMix
import Derived.Laws.AppendOwnNone
namespace Go.Proofs.YtjnpinfnpnohmaaDoor
open Go.RowKit Go.PlainAid
set_option linter.unusedVariables false
set_option linter.unusedSimpArgs false

theorem kid_ups {pa ch nx : List Int} {n : Nat} (h : NestW pa ch nx n) (hn : 1 ≤ n) {x c : Int} (hc : c ∈ kidsW ch nx n x) : upsW pa n n c = c :: upsW pa n n x := by
  have h1 := kids_is hc
  have h2 := h.up x c hc
  obtain ⟨m, rfl⟩ : ∃ m, n = m + 1 := ⟨n - 1, by omega⟩
  rw [ups_short pa _ m x (ups_len h hn x), upsW, if_pos h1, h2]
def partN (kids : Int → List Int) (hid sho : Int → Bool) (d : Nat) (c : Int) : List Int := if hid c = true then [] else c :: (if sho c = true then reachW kids hid sho d c else [])
theorem reach_partN (kids : Int → List Int) (hid sho : Int → Bool) (d : Nat) (x : Int) : reachW kids hid sho (d + 1) x = (kids x).flatMap (partN kids hid sho d) := rfl
mutual
theorem reach_up {pa ch nx : List Int} {n : Nat} (h : NestW pa ch nx n) (hn : 1 ≤ n) (hid sho : Int → Bool) : ∀ (d : Nat) (x y : Int), y ∈ reachW (kidsW ch nx n) hid sho d x → ∃ (s : List Int) (c : Int), upsW pa n n y = s ++ c :: upsW pa n n x
  | 0, x, y => fun hy => by cases hy
  | d + 1, x, y => fun hy => by
    rw [reach_partN] at hy
    obtain ⟨c, hc, hy⟩ := List.mem_flatMap.1 hy
    obtain ⟨s, e⟩ := part_upN h hn hid sho d x c y hc hy
    exact ⟨s, c, e⟩
theorem part_upN {pa ch nx : List Int} {n : Nat} (h : NestW pa ch nx n) (hn : 1 ≤ n) (hid sho : Int → Bool) : ∀ (d : Nat) (x c y : Int), c ∈ kidsW ch nx n x → y ∈ partN (kidsW ch nx n) hid sho d c → ∃ s : List Int, upsW pa n n y = s ++ c :: upsW pa n n x
  | d, x, c, y => fun hc hy => by
    unfold partN at hy
    split at hy
    · cases hy
    · rcases List.mem_cons.1 hy with rfl | hy
      · exact ⟨[], kid_ups h hn hc⟩
      · split at hy
        · obtain ⟨s, c', e⟩ := reach_up h hn hid sho d c y hy
          exact ⟨s ++ [c'], by rw [e, kid_ups h hn hc]; simp⟩
        · cases hy
end
theorem reach_nodup {pa ch nx : List Int} {n : Nat} (h : NestW pa ch nx n) (hn : 1 ≤ n) (hd : ∀ x, (kidsW ch nx n x).Nodup) (hid sho : Int → Bool) : ∀ (d : Nat) (x : Int), (reachW (kidsW ch nx n) hid sho d x).Nodup
  | 0, x => List.nodup_nil
  | d + 1, x => by
    rw [reach_partN]
    refine List.pairwise_flatMap.2 ⟨fun c hc => ?_, ?_⟩
    · unfold partN
      split
      · exact List.Pairwise.nil
      · refine List.nodup_cons.2 ⟨fun hm => ?_, ?_⟩
        · split at hm
          · obtain ⟨s, c', e⟩ := reach_up h hn hid sho d c c hm
            have := congrArg List.length e
            simp at this
            omega
          · cases hm
        · split
          · exact reach_nodup h hn hd hid sho d c
          · exact List.nodup_nil
    · refine List.Pairwise.imp_of_mem (fun {a b} ha hb hab y hy z hz e => ?_) (hd x)
      subst e
      obtain ⟨s1, e1⟩ := part_upN h hn hid sho d x a y ha hy
      obtain ⟨s2, e2⟩ := part_upN h hn hid sho d x b y hb hz
      rw [e1] at e2
      have := (List.append_inj' e2 (by simp)).2
      simp at this
      exact hab this
theorem reach_is {ch nx : List Int} {n : Nat} (hid sho : Int → Bool) : ∀ (d : Nat) (x y : Int), y ∈ reachW (kidsW ch nx n) hid sho d x → isW n y = true
  | 0, x, y => fun hy => by cases hy
  | d + 1, x, y => fun hy => by
    rw [reach_partN] at hy
    obtain ⟨c, hc, hy⟩ := List.mem_flatMap.1 hy
    unfold partN at hy
    split at hy
    · cases hy
    · rcases List.mem_cons.1 hy with rfl | hy
      · exact kids_is hc
      · split at hy
        · exact reach_is hid sho d c y hy
        · cases hy
theorem reach_len {pa ch nx : List Int} {n : Nat} (h : NestW pa ch nx n) (hn : 1 ≤ n) (hd : ∀ x, (kidsW ch nx n x).Nodup) (hid sho : Int → Bool) (d : Nat) (x : Int) : (reachW (kidsW ch nx n) hid sho d x).length ≤ n :=
  nodup_bd n _ (reach_nodup h hn hd hid sho d x) fun y hy => by have := isW_spec.1 (reach_is hid sho d x y hy); omega
set_option maxRecDepth 100000 in
set_option maxHeartbeats 4000000 in
theorem ref23has (q : Wv) (d : WdC) (x f : Int) (n : Nat) (w : World) (h : WOk w q d n) (h0 : 0 ≤ f) (h1 : f ≤ 15) :
    Calls Tryd.prog 54 #[worldV q, .int .i64 x, .int .i64 f] w fun e w' => e = .returned (.bool (hasB d.fl n x f)) ∧ Below w.heap.size w w' := by
  have hl4 := h.l4
  have hmm := h.few
  have HBw := Lib.hid (BK.new w (worldC q) 34)
  have HB0 := Lib.hid (bl_oneA w (.cells (worldC q).toArray 34))
  unfold hasB
  cases hx : isW n x with
  | false =>
    have hxs : ¬ (1 ≤ x ∧ x < (n : Int)) := fun hh => by rw [isW_spec.2 hh] at hx; cases hx
    obtain ⟨W0, hW0⟩ : ∃ W0, w.alloc (.cells (worldC q).toArray 34) = W0 := ⟨_, rfl⟩
    rw [hW0] at HBw HB0
    clear hx h
    have b0 := HBw.cell 0
    have b1 := HBw.cell 1
    have b2 := HBw.cell 2
    have b3 := HBw.cell 3
    have b4 := HBw.cell 4
    have b5 := HBw.cell 5
    have b6 := HBw.cell 6
    have b7 := HBw.cell 7
    have b8 := HBw.cell 8
    have b9 := HBw.cell 9
    have bA := HBw.cell 10
    have bB := HBw.cell 11
    have bC := HBw.cell 12
    simp only [worldC, List.getElem?_cons_zero, List.getElem?_cons_succ] at b0 b1 b2 b3 b4 b5 b6 b7 b8 b9 bA bB bC
    unfold worldV at *
    unfold worldC at hW0 ⊢
    by_cases h1x : 1 ≤ x
    · have h2x : ¬ (x < (n : Int)) := fun hh => hxs ⟨h1x, hh⟩
      rw [← hl4] at h2x
      clear hxs hl4
      go_enter Tryd.func54, Tryd.ntmps54
      go_wp2
      go_ret
      exact ⟨rfl, HB0.out⟩
    · clear hxs hl4
      go_enter Tryd.func54, Tryd.ntmps54
      go_wp2
      go_ret
      exact ⟨rfl, HB0.out⟩
  | true =>
    have hlt := isW_lt hx
    have hx4 := (isW_spec.1 hx).1
    have h5 : d.fl.length = n := by rw [← h.is.fl.len, h.l4]
    obtain ⟨bc, oc, hac, hbc, hcc, _⟩ := h.is.fl.at_ (i := x.toNat) (by rw [h5]; exact hlt.1)
    have hcx := hcc x.toNat (by rw [h5]; exact hlt.1)
    have hfm := h.fl _ (List.getElem_mem (n := x.toNat) (by rw [h5]; exact hlt.1))
    rw [atW_get (by rw [h5]; exact hlt.1)]
    generalize d.fl[x.toNat]'(by rw [h5]; exact hlt.1) = m at *
    have hcx := (HB0.out.cell (p := ⟨bc, oc + x.toNat, none⟩) hbc).trans hcx
    obtain ⟨v0, v1⟩ := shr_bd m f hfm.1 hfm.2
    have hv : Hid (bitB m f = decide (m / 2 ^ f.toNat % 2 = 1)) := Lib.hid rfl
    have hq : Int.tmod (m / 2 ^ f.toNat) 2 = m / 2 ^ f.toNat % 2 := Int.tmod_eq_emod_of_nonneg v0
    have hq1 : IntKind.i64.wrap (m / 2 ^ f.toNat % 2) = m / 2 ^ f.toNat % 2 := IntWalk.i64_in _ (by omega)
    obtain ⟨W0, hW0⟩ : ∃ W0, w.alloc (.cells (worldC q).toArray 34) = W0 := ⟨_, rfl⟩
    rw [hW0] at HBw HB0 hcx
    clear h h5 hcc hx
    obtain ⟨hx1, hx2, hx3⟩ := hlt
    obtain ⟨hm0, hm1⟩ := hfm
    obtain ⟨a0, a1, a2, a3, a4, a5, a6, l0, l1, l2, l3, l4, l5, l6, c0, c1, c2, c3, c4, c5, c6, s, sc, tu, ov, it, go⟩ := q
    simp only at *
    subst hl4 hac
    have b0 := HBw.cell 0
    have b1 := HBw.cell 1
    have b2 := HBw.cell 2
    have b3 := HBw.cell 3
    have b4 := HBw.cell 4
    have b5 := HBw.cell 5
    have b6 := HBw.cell 6
    have b7 := HBw.cell 7
    have b8 := HBw.cell 8
    have b9 := HBw.cell 9
    have bA := HBw.cell 10
    have bB := HBw.cell 11
    have bC := HBw.cell 12
    simp only [worldC, List.getElem?_cons_zero, List.getElem?_cons_succ] at b0 b1 b2 b3 b4 b5 b6 b7 b8 b9 bA bB bC
    unfold worldV at *
    unfold worldC at hW0 ⊢
    try simp only at hW0
    try simp only
    go_enter Tryd.func54, Tryd.ntmps54
    go_wp2
    go_ret
    exact ⟨rfl, HB0.out⟩
theorem ref23shows (q : Wv) (d : WdC) (x : Int) (n : Nat) (w : World) (h : WOk w q d n) :
    Calls Tryd.prog 84 #[worldV q, .int .i64 x] w fun e w' => e = .returned (.bool (showB d.fl n x)) ∧ Below w.heap.size w w' := by
  have HI := Lib.hid (ref23has q d x 2 n (w.alloc (.cells (worldC q).toArray 34)) (h.below (bl_oneA _ _)) (by decide) (by decide))
  have HI2 := Lib.hid (fun w' (hb : Below w.heap.size w w') => ref23has q d x 1 n w' (h.below hb) (by decide) (by decide))
  have HK : Hid (∀ w1, Below (w.alloc (.cells (worldC q).toArray 34)).heap.size (w.alloc (.cells (worldC q).toArray 34)) w1 → BK w1 w.heap.size (worldC q) 34) := Lib.hid (fun w1 hb => (BK.new w (worldC q) 34).below hb)
  unfold showB
  generalize hasB d.fl n x 2 = b at *
  generalize hasB d.fl n x 1 = c at *
  clear h
  unfold worldV at *
  cases b
  · unfold worldC at *
    go_enter Tryd.func84, Tryd.ntmps84
    go_wp2_with fail
    refine HI.out.mono ?_
    rintro e w1 ⟨rfl, hb1⟩
    have HB1 := Lib.hid ((bl_oneA w _).trans (hb1.mono (bl_oneA w _).size))
    clear hb1
    go_wp2
    go_ret
    exact ⟨rfl, HB1.out⟩
  · go_enter Tryd.func84, Tryd.ntmps84
    unfold worldC at HI HI2 ⊢
    go_wp2_with fail
    refine HI.out.mono ?_
    rintro e w1 ⟨rfl, hb1⟩
    have HB1 := Lib.hid ((bl_oneA w _).trans (hb1.mono (bl_oneA w _).size))
    have HW := Lib.hid (HK.out w1 hb1)
    have b0 := HW.cell 0
    have b1 := HW.cell 1
    have b2 := HW.cell 2
    have b3 := HW.cell 3
    have b4 := HW.cell 4
    have b5 := HW.cell 5
    have b6 := HW.cell 6
    have b7 := HW.cell 7
    have b8 := HW.cell 8
    have b9 := HW.cell 9
    have bA := HW.cell 10
    have bB := HW.cell 11
    have bC := HW.cell 12
    simp only [worldC, List.getElem?_cons_zero, List.getElem?_cons_succ] at b0 b1 b2 b3 b4 b5 b6 b7 b8 b9 bA bB bC
    clear hb1
    go_wp2_with fail
    refine (HI2.out _ HB1.out).mono ?_
    rintro e w2 ⟨rfl, hb2⟩
    have HB2 := Lib.hid (HB1.out.trans (hb2.mono HB1.out.size))
    clear hb2
    go_wp2
    go_ret
    exact ⟨rfl, HB2.out⟩
theorem ref23Here (q : Wv) (d : WdC) (n : Nat) (w : World) (hw : WOk w q d n) :
    Calls Tryd.prog 45 #[worldV q] w fun e w' => e = .returned (.int .i64 (topOf d.pa n 1)) ∧ Below w.heap.size w w' := by
  have HI := Lib.hid (ref20Top q d 1 n (w.alloc (.cells (worldC q).toArray 34)) (hw.is.below (bl_oneA _ _)) hw.len)
  generalize topOf d.pa n 1 = b at *
  clear hw
  unfold worldV worldC at *
  go_enter Tryd.func45, Tryd.ntmps45
  go_wp2_with fail
  refine HI.out.mono ?_
  rintro e w1 ⟨rfl, hb1⟩
  have HB1 := Lib.hid ((bl_oneA w _).trans (hb1.mono (bl_oneA w _).size))
  clear hb1
  go_wp2
  go_ret
  exact ⟨rfl, HB1.out⟩
end Go.Proofs.YtjnpinfnpnohmaaDoor
namespace Go.Proofs.YtjnpinfnpnohmaaDoor
open Go.RowKit Go.PlainAid
set_option linter.unusedVariables false
set_option linter.unusedSimpArgs false

theorem OwnInts.at3 {B : Nat} {w : World} {v : Value} {L : List Int} (h : OwnInts B w v L) (hn : 0 < L.length) : ∃ g c, v = .slice (some ⟨g, 0, none⟩) L.length c ∧ ∀ j u, (L.map (Value.int .i64))[j]? = some u → w.cell? ((⟨g, 0, none⟩ : Addr).add j) = some u := by
  obtain ⟨g, cap, rfl, hg, hlt⟩ := h.1.form hn
  refine ⟨g, cap, rfl, fun j u hj => ?_⟩
  have hjl : j < L.length := by
    have := (List.getElem?_eq_some_iff.1 hj).1
    simpa using this
  rw [show (⟨g, 0, none⟩ : Addr).add j = ⟨g, j, none⟩ by simp [Addr.add]; intro h; omega, h.1.cellAt j (by omega)]
  exact hj
theorem flat_take {f : Int → List Int} {L : List Int} {i : Nat} (h : i < L.length) : (L.take (i + 1)).flatMap f = (L.take i).flatMap f ++ f L[i] := by
  rw [List.take_succ_eq_append_getElem h, List.flatMap_append]; simp
theorem flat_le {f : Int → List Int} {L : List Int} (i : Nat) : ((L.take i).flatMap f).length ≤ (L.flatMap f).length := by
  have := congrArg (fun l => (List.flatMap f l).length) (List.take_append_drop i L)
  simp only [List.flatMap_append, List.length_append] at this
  omega
set_option maxRecDepth 100000 in
set_option maxHeartbeats 16000000 in
theorem ref23reached (q : Wv) (d : WdC) (n : Nat) (hd : ∀ x, (kidsW d.ch d.nx n x).Nodup) : ∀ (dep : Nat) (x : Int) (w : World), WOk w q d n → dep ≤ 1000 →
    Calls Tryd.prog 55 #[worldV q, .int .i64 x, .int .i64 dep] w (RetIntsR w (reachW (kidsW d.ch d.nx n) (fun c => hasB d.fl n c 3) (showB d.fl n) dep x))
  | 0, x, w => fun hW _ => by
    have hnn : n ≤ 1000000 := Nat.le_trans hW.few (by decide)
    have HK := Lib.hid (fun w' (hb : Below w.heap.size w w') => ref20Kids q d x n w' (hW.is.below hb) hW.len hnn)
    have hnew := OneBx.new q w
    obtain ⟨W0, hW0⟩ : ∃ W0, w.alloc (.cells (worldC q).toArray 34) = W0 := ⟨_, rfl⟩
    rw [hW0] at hnew
    have HM : (kidsW d.ch d.nx n x).length ≤ 1000000 := kids_len1 _ _ _ _ hnn
    generalize kidsW d.ch d.nx n x = L at *
    have HB := Lib.hid hnew
    have HBw := Lib.hid hnew.bw
    clear hW hnew
    unfold worldV at *
    unfold worldC at HK hW0
    have b0 := HBw.out.cell 0
    have b1 := HBw.out.cell 1
    have b2 := HBw.out.cell 2
    have b3 := HBw.out.cell 3
    have b4 := HBw.out.cell 4
    have b5 := HBw.out.cell 5
    have b6 := HBw.out.cell 6
    have b7 := HBw.out.cell 7
    have b8 := HBw.out.cell 8
    have b9 := HBw.out.cell 9
    have bA := HBw.out.cell 10
    have bB := HBw.out.cell 11
    have bC := HBw.out.cell 12
    simp only [worldC, List.getElem?_cons_zero, List.getElem?_cons_succ] at b0 b1 b2 b3 b4 b5 b6 b7 b8 b9 bA bB bC
    go_enter Tryd.func55, Tryd.ntmps55
    unfold worldC
    go_wp2_with fail
    clear hW0
    refine (HK.out _ HB.out.bl).mono ?_
    rintro e w1 ⟨v, rfl, g1, g2⟩
    obtain ⟨a, cc, rfl⟩ := g1.shape
    have HB1 := Lib.hid (HB.out.below g2)
    clear g1 g2 HK HBw HB
    clear b0 b1 b2 b3 b4 b5 b6 b7 b8 b9 bA bB bC
    obtain ⟨m, hm⟩ : ∃ m, L.length = m := ⟨_, rfl⟩
    rw [hm] at HM ⊢
    clear hm
    go_wp2_with fail
    go_loopw [7, 9] (fun ov iv wr => ov = .slice none 0 0 ∧ iv = .int .i64 0 ∧ Hid (Below w1.heap.size w1 wr)) (fun _ iv _ => 0)
    case atStart => exact ⟨rfl, rfl, Lib.hid (Below.refl _ _)⟩
    case round =>
      obtain ⟨rfl, rfl, HBL⟩ := hrel
      have HBR := Lib.hid (HB1.out.below HBL.out)
      by_cases hm0 : 0 < m
      · go_wp2_with fail
        go_ret
        exact ⟨_, rfl, ⟨World.ownsRow_nil _ _ _ _, fun _ => rfl⟩, HBR.out.bl⟩
      · go_wp2_with fail
        go_ret
        exact ⟨_, rfl, ⟨World.ownsRow_nil _ _ _ _, fun _ => rfl⟩, HBR.out.bl⟩
  | dep + 1, x, w => fun hW hdep => by
    have hnn : n ≤ 1000000 := Nat.le_trans hW.few (by decide)
    have hfew := hW.few
    have HK := Lib.hid (fun w' (hb : Below w.heap.size w w') => ref20Kids q d x n w' (hW.is.below hb) hW.len hnn)
    have HH := Lib.hid (fun c w' (hb : Below w.heap.size w w') => ref23has q d c 3 n w' (hW.below hb) (by decide) (by decide))
    have HSH := Lib.hid (fun c w' (hb : Below w.heap.size w w') => ref23shows q d c n w' (hW.below hb))
    have HRE := Lib.hid (fun c w' (hb : Below w.heap.size w w') => ref23reached q d n hd dep c w' (hW.below hb) (by omega))
    have HRL := Lib.hid (fun dep' c => reach_len hW.nest hW.pos hd (fun c => hasB d.fl n c 3) (showB d.fl n) dep' c)
    have hnew := OneBx.new q w
    obtain ⟨W0, hW0⟩ : ∃ W0, w.alloc (.cells (worldC q).toArray 34) = W0 := ⟨_, rfl⟩
    rw [hW0] at hnew
    obtain ⟨i0, hi, hi1, hi2, hi3⟩ := info_parts info_intR
    have HM : (kidsW d.ch d.nx n x).length ≤ 1000000 := kids_len1 _ _ _ _ hnn
    have HFL : Hid (∀ i, (((kidsW d.ch d.nx n x).take i).flatMap (partN (kidsW d.ch d.nx n) (fun c => hasB d.fl n c 3) (showB d.fl n) dep)).length ≤ n) := Lib.hid (fun i => Nat.le_trans (flat_le i) (HRL.out (dep + 1) x))
    have HRLd := Lib.hid (HRL.out dep)
    rw [reach_partN]
    have HPA : Hid (∀ c, partN (kidsW d.ch d.nx n) (fun c => hasB d.fl n c 3) (showB d.fl n) dep c = if hasB d.fl n c 3 = true then [] else c :: (if showB d.fl n c = true then reachW (kidsW d.ch d.nx n) (fun c => hasB d.fl n c 3) (showB d.fl n) dep c else [])) := Lib.hid (fun c => rfl)
    generalize partN (kidsW d.ch d.nx n) (fun c => hasB d.fl n c 3) (showB d.fl n) dep = part at *
    generalize reachW (kidsW d.ch d.nx n) (fun c => hasB d.fl n c 3) (showB d.fl n) dep = RR at *
    generalize kidsW d.ch d.nx n x = L at *
    have hdi : (dep : Int) ≤ 1000 := by omega
    have hdp : (0 : Int) < (dep : Int) + 1 := by omega
    have hwk : IntKind.i64.wrap (dep : Int) = (dep : Int) := IntWalk.i64_in _ (by omega)
    have HB := Lib.hid hnew
    have HBw := Lib.hid hnew.bw
    clear hW hnew HRL
    unfold worldV at *
    unfold worldC at HK HH HSH HRE hW0
    have b0 := HBw.out.cell 0
    have b1 := HBw.out.cell 1
    have b2 := HBw.out.cell 2
    have b3 := HBw.out.cell 3
    have b4 := HBw.out.cell 4
    have b5 := HBw.out.cell 5
    have b6 := HBw.out.cell 6
    have b7 := HBw.out.cell 7
    have b8 := HBw.out.cell 8
    have b9 := HBw.out.cell 9
    have bA := HBw.out.cell 10
    have bB := HBw.out.cell 11
    have bC := HBw.out.cell 12
    simp only [worldC, List.getElem?_cons_zero, List.getElem?_cons_succ] at b0 b1 b2 b3 b4 b5 b6 b7 b8 b9 bA bB bC
    go_enter Tryd.func55, Tryd.ntmps55
    unfold worldC
    go_wp2_with fail
    clear hW0
    refine (HK.out _ HB.out.bl).mono ?_
    rintro e w1 ⟨v, rfl, g1, g2⟩
    obtain ⟨a, cc, rfl⟩ := g1.shape
    have HIN1 := Lib.hid (g1.ints (by unfold maxLen; omega))
    have HB1 := Lib.hid (HB.out.below g2)
    clear g1 g2 HK HBw HB
    clear b0 b1 b2 b3 b4 b5 b6 b7 b8 b9 bA bB bC
    obtain ⟨m, hm⟩ : ∃ m, L.length = m := ⟨_, rfl⟩
    have HLM := Lib.hid hm
    rw [hm] at HIN1 HM ⊢
    clear hm
    go_wp2_with fail
    go_loopw [7, 9] (fun ov iv wr => ∃ (i j : Nat) (va : Option Addr) (vc : Nat), ov = .slice va j vc ∧ iv = .int .i64 i ∧ i ≤ m ∧ Hid (((L.take i).flatMap part).length = j) ∧ Hid (OwnInts w1.heap.size wr (.slice va j vc) ((L.take i).flatMap part)) ∧ Hid (Below w1.heap.size w1 wr)) (fun _ iv _ => m - (intOf iv).toNat)
    case atStart => exact ⟨0, 0, none, 0, rfl, rfl, Nat.zero_le _, Lib.hid rfl, Lib.hid ⟨World.ownsRow_nil _ _ _ _, fun _ => rfl⟩, Lib.hid (Below.refl _ _)⟩
    case round =>
      obtain ⟨i, j, va, vc, rfl, rfl, hil, HPL, HOW, HBL⟩ := hrel
      have HBR := Lib.hid (HB1.out.below HBL.out)
      by_cases hlt : i < m
      · have HIN := Lib.hid (HIN1.out.below HBL.out)
        have HBRw := Lib.hid HBR.out.bw
        have b0 := HBRw.out.cell 0
        have b1 := HBRw.out.cell 1
        have b2 := HBRw.out.cell 2
        have b3 := HBRw.out.cell 3
        have b4 := HBRw.out.cell 4
        have b5 := HBRw.out.cell 5
        have b6 := HBRw.out.cell 6
        have b7 := HBRw.out.cell 7
        have b8 := HBRw.out.cell 8
        have b9 := HBRw.out.cell 9
        have bA := HBRw.out.cell 10
        have bB := HBRw.out.cell 11
        have bC := HBRw.out.cell 12
        simp only [worldC, List.getElem?_cons_zero, List.getElem?_cons_succ] at b0 b1 b2 b3 b4 b5 b6 b7 b8 b9 bA bB bC
        have hiL : i < L.length := by rw [HLM.out]; exact hlt
        obtain ⟨b, o, ha, hb, hcs⟩ := HIN1.out.at2 (by omega)
        subst ha
        have hci1 := hcs i hiL
        have hci := (HBL.out.cell (p := ⟨b, o + i, none⟩) hb).trans hci1
        have HF := Lib.hid (flat_take (f := part) hiL)
        have hjm : j ≤ 1000 := by rw [← HPL.out]; exact Nat.le_trans (HFL.out i) hfew
        have hjm1 : (L.take (i + 1)).flatMap part = (L.take i).flatMap part ++ part L[i] → j + (part L[i]).length ≤ 1000 := fun e => by
          have h1 := HFL.out (i + 1)
          rw [e, List.length_append, HPL.out] at h1; omega
        have hjm1 := hjm1 HF.out
        generalize L[i] = c at *
        have HHc := Lib.hid (fun w' hb => HH.out c w' hb)
        have HSc := Lib.hid (fun w' hb => HSH.out c w' hb)
        have HRc := Lib.hid (fun w' hb => HRE.out c w' hb)
        have HRcl := Lib.hid (HRLd.out c)
        have hpc := HPA.out c
        generalize part c = pc at *
        generalize hasB d.fl n c 3 = bh at *
        generalize showB d.fl n c = bs at *
        generalize RR c = Rc at *
        have HPC := Lib.hid hpc
        clear hpc hcs
        have hlt0 : w.heap.size < wr.heap.size := HBRw.out.lt
        have hblt : b < wr.heap.size := Nat.lt_of_lt_of_le hb HBL.out.size
        go_wp2_with fail
        refine region_text (fun w' => Below wr.heap.size wr w') (by kernel_rfl) (by kernel_rfl) ((Below.refl _ _).drew) (fun KK hKK => ?_)
        intro OPS
        try simp only [List.append]
        repeat (first
          | (refine' inText_val ?_ ?_ ?_ ?_
             rotate_left 2
             · rfl
             · (intro w' hS; obtain ⟨hcc, hff⟩ := bcell hS; go_simp; first | with_reducible rfl | (rw [if_neg (by omega)]; done) | (rw [if_neg (by omega)]; with_reducible rfl) | (rw [if_pos (by omega)]; done) | (rw [if_pos (by omega)]; with_reducible rfl) | skip)
             · (simp only [Act.put, List.setIfInBounds_toArray, List.set_cons_zero, List.set_cons_succ]; with_reducible rfl))
          | (refine' inText_call ?_ ?_ ?_ ?_ ?_
             rotate_left 4
             · rfl
             · (intro w' hS; obtain ⟨hcc, hff⟩ := bcell hS; go_simp; exact ⟨rfl, rfl⟩)
             · (intro w' hS
                first
                  | ((with_reducible refine (HHc.out w' (bl_then HBR.out.bl hS)).mono ?_); exact fun e w'' h => ⟨h.1, bl_then hS h.2⟩)
                  | ((with_reducible refine (HSc.out w' (bl_then HBR.out.bl hS)).mono ?_); exact fun e w'' h => ⟨h.1, bl_then hS h.2⟩))
             · (simp only [Act.put, List.setIfInBounds_toArray, List.set_cons_zero, List.set_cons_succ]; with_reducible rfl)))
        refine inText_nil (hKK.out _ (fun w2 hS => ?_))
        have HBL2 := Lib.hid (bl_then HBL.out hS)
        have HOW2 := Lib.hid (HOW.out.below hS)
        have hz2 : w1.heap.size ≤ w2.heap.size := HBL2.out.size
        clear hS hKK hci
        clear b0 b1 b2 b3 b4 b5 b6 b7 b8 b9 bA bB bC
        cases bh with
        | true =>
          have HE : Hid ((L.take (i + 1)).flatMap part = (L.take i).flatMap part) := Lib.hid (by rw [HF.out, HPC.out]; simp)
          go_wp2_with fail
          go_roundw
          case rel => exact ⟨i + 1, j, va, vc, rfl, by go_num, by omega, Lib.hid (by rw [HE.out]; exact HPL.out), Lib.hid (by rw [HE.out]; exact HOW2.out), HBL2⟩
          case measure => simp [intOf]; omega
        | false =>
          generalize (L.take i).flatMap part = pre at *
          have hown : w2.ownsRow w1.heap.size 3 1 (.slice va j vc) j (pre.map (Value.int .i64)) := by have := HOW2.out.1; rwa [HPL.out] at this
          have HLO := Lib.hid (ow_lo hown)
          have HWN := Lib.hid (hown.alloc (.cells #[.int .i64 c] 3))
          have HBA := Lib.hid (bl_a HBL2.out (.cells #[.int .i64 c] 3))
          have hci2 := (HBL2.out.cell (p := ⟨b, o + i, none⟩) hb).trans hci1
          have hcA : (w2.alloc (.cells #[.int .i64 c] 3)).cell? ⟨b, o + i, none⟩ = some (.int .i64 c) := (HBA.out.cell (p := ⟨b, o + i, none⟩) hb).trans hci1
          clear hown
          have HCA := Lib.hid hcA
          clear hcA
          go_wp2_with (at_builtin; refine wpList_append_own _ rfl _ _ 23 rfl w1.heap.size 3 i0 (.int .i64 0) 1 8 Tryd.underlying23 hi hi1 hi2 hi3 rfl (by decide) _ j (pre.map (Value.int .i64)) rfl HWN.out ⟨w2.heap.size, 0, none⟩ 1 1 [.int .i64 c] rfl rfl (int_newS _ _ _) (ow_one rfl) (by unfold maxLen; omega) (by omega) (by simp; omega) ?_; intro v3 w3 hown3 hgrow3 _; obtain ⟨g3, cap3, rfl⟩ := ownsRow_succ hown3; have HO3 : Hid (OwnInts w1.heap.size w3 (.slice (some ⟨g3, 0, none⟩) (j + 1) cap3) (pre ++ [c])) := Lib.hid ⟨by rw [List.length_append, HPL.out]; simpa using hown3, fun e => by simp at e⟩; have HB3 := Lib.hid (bl_g HBA.out hgrow3 HLO.out); clear hown3 hgrow3)
          clear hci2
          have HBR := Lib.hid (HB1.out.below HB3.out)
          have HBRw := Lib.hid HBR.out.bw
          have b0 := HBRw.out.cell 0
          have b1 := HBRw.out.cell 1
          have b2 := HBRw.out.cell 2
          have b3 := HBRw.out.cell 3
          have b4 := HBRw.out.cell 4
          have b5 := HBRw.out.cell 5
          have b6 := HBRw.out.cell 6
          have b7 := HBRw.out.cell 7
          have b8 := HBRw.out.cell 8
          have b9 := HBRw.out.cell 9
          have bA := HBRw.out.cell 10
          have bB := HBRw.out.cell 11
          have bC := HBRw.out.cell 12
          simp only [worldC, List.getElem?_cons_zero, List.getElem?_cons_succ] at b0 b1 b2 b3 b4 b5 b6 b7 b8 b9 bA bB bC
          have hci := (HB3.out.cell (p := ⟨b, o + i, none⟩) hb).trans hci1
          have hlt0 : w.heap.size < w3.heap.size := HBRw.out.lt
          have hblt : b < w3.heap.size := Nat.lt_of_lt_of_le hb HB3.out.size
          refine region_text (fun w' => Below w3.heap.size w3 w') (by kernel_rfl) (by kernel_rfl) ((Below.refl _ _).drew) (fun KK hKK => ?_)
          intro OPS
          try simp only [List.append]
          repeat (first
            | (refine' inText_val ?_ ?_ ?_ ?_
               rotate_left 2
               · rfl
               · (intro w' hS; obtain ⟨hcc, hff⟩ := bcell hS; go_simp; first | with_reducible rfl | (rw [if_neg (by omega)]; done) | (rw [if_neg (by omega)]; with_reducible rfl) | (rw [if_pos (by omega)]; done) | (rw [if_pos (by omega)]; with_reducible rfl) | skip)
               · (simp only [Act.put, List.setIfInBounds_toArray, List.set_cons_zero, List.set_cons_succ]; with_reducible rfl))
            | (refine' inText_call ?_ ?_ ?_ ?_ ?_
               rotate_left 4
               · rfl
               · (intro w' hS; obtain ⟨hcc, hff⟩ := bcell hS; go_simp; exact ⟨rfl, rfl⟩)
               · (intro w' hS
                  first
                    | ((with_reducible refine (HHc.out w' (bl_then HBR.out.bl hS)).mono ?_); exact fun e w'' h => ⟨h.1, bl_then hS h.2⟩)
                    | ((with_reducible refine (HSc.out w' (bl_then HBR.out.bl hS)).mono ?_); exact fun e w'' h => ⟨h.1, bl_then hS h.2⟩))
               · (simp only [Act.put, List.setIfInBounds_toArray, List.set_cons_zero, List.set_cons_succ]; with_reducible rfl)))
          refine inText_nil (hKK.out _ (fun w4 hS => ?_))
          have HBL4 := Lib.hid (bl_then HB3.out hS)
          have HOW4 := Lib.hid (HO3.out.below hS)
          have hz4 : w1.heap.size ≤ w4.heap.size := HBL4.out.size
          clear hS hKK hci
          clear b0 b1 b2 b3 b4 b5 b6 b7 b8 b9 bA bB bC
          cases bs with
          | false =>
            have HE : Hid ((L.take (i + 1)).flatMap part = pre ++ [c]) := Lib.hid (by rw [HF.out, HPC.out]; simp)
            go_wp2_with fail
            go_roundw
            case rel => exact ⟨i + 1, j + 1, _, _, rfl, by go_num, by omega, Lib.hid (by rw [HE.out, List.length_append, HPL.out]; rfl), Lib.hid (by rw [HE.out]; exact HOW4.out), HBL4⟩
            case measure => simp [intOf]; omega
          | true =>
            have HE : Hid ((L.take (i + 1)).flatMap part = (pre ++ [c]) ++ Rc) := Lib.hid (by rw [HF.out, HPC.out]; simp)
            have hjR : (j + 1) + Rc.length ≤ 1000 := by
              have hp2 : pc.length = Rc.length + 1 := by rw [HPC.out]; simp
              have hj2 : j + pc.length ≤ 1000 := by assumption
              omega
            have HBR := Lib.hid (HB1.out.below HBL4.out)
            have HBRw := Lib.hid HBR.out.bw
            have b0 := HBRw.out.cell 0
            have b1 := HBRw.out.cell 1
            have b2 := HBRw.out.cell 2
            have b3 := HBRw.out.cell 3
            have b4 := HBRw.out.cell 4
            have b5 := HBRw.out.cell 5
            have b6 := HBRw.out.cell 6
            have b7 := HBRw.out.cell 7
            have b8 := HBRw.out.cell 8
            have b9 := HBRw.out.cell 9
            have bA := HBRw.out.cell 10
            have bB := HBRw.out.cell 11
            have bC := HBRw.out.cell 12
            simp only [worldC, List.getElem?_cons_zero, List.getElem?_cons_succ] at b0 b1 b2 b3 b4 b5 b6 b7 b8 b9 bA bB bC
            have hci := (HBL4.out.cell (p := ⟨b, o + i, none⟩) hb).trans hci1
            have hlt0 : w.heap.size < w4.heap.size := HBRw.out.lt
            have hblt : b < w4.heap.size := Nat.lt_of_lt_of_le hb HBL4.out.size
            go_wp2_with fail
            refine region_mix 8 9 (fun w' => Below w4.heap.size w4 w') (by kernel_rfl) (by kernel_rfl) ((Below.refl _ _).drew) (fun KK hKK => ?_)
            intro OPS
            simp only [List.append, List.take, List.drop, Nat.reduceSub]
            repeat (refine' inRead_val ?_ ?_ ?_ ?_
                    rotate_left 2
                    · rfl
                    · (intro w' hS; obtain ⟨hcc, hff⟩ := bcell hS; go_simp; try with_reducible rfl)
                    · (simp only [Act.put, List.setIfInBounds_toArray, List.set_cons_zero, List.set_cons_succ]; with_reducible rfl))
            refine inRead_nil ?_
            refine' inSeq_call ?_ ?_ ?_
            rotate_left 2
            · rfl
            · go_simp
              exact ⟨rfl, rfl⟩
            refine (HRc.out _ (bl_then HBR.out.bl (Below.refl _ _).drew)).mono ?_
            rintro e w5 ⟨v5, rfl, k1, k2⟩
            have HB5 : Hid (Below w4.heap.size w4 w5) := Lib.hid (bl_then (Below.refl _ _).drew k2)
            have hz5 : w1.heap.size ≤ w5.heap.size := (bl_then HBL4.out HB5.out).size
            have HW5 : Hid (w5.ownsRow w1.heap.size 3 1 (.slice (some ⟨g3, 0, none⟩) (j + 1) cap3) (j + 1) ((pre ++ [c]).map (Value.int .i64))) := Lib.hid (by have := (HOW4.out.below HB5.out).1; rwa [List.length_append, HPL.out] at this)
            have HBL5 := Lib.hid (bl_then HBL4.out HB5.out)
            clear k2 hci
            clear b0 b1 b2 b3 b4 b5 b6 b7 b8 b9 bA bB bC
            refine ⟨_, rfl, HB5.out, ?_⟩
            simp only [Act.put, List.setIfInBounds_toArray, List.set_cons_zero, List.set_cons_succ]
            refine inSeq_nil (hKK.out _ _ ?_)
            simp only [List.drop]
            clear hKK
            by_cases hR : 0 < Rc.length
            · obtain ⟨g5, c5, rfl, hn5⟩ := k1.at3 hR
              clear k1
              at_builtin
              refine wpList_append_own _ rfl _ _ 23 rfl w1.heap.size 3 i0 (.int .i64 0) 1 8 Tryd.underlying23 hi hi1 hi2 hi3 rfl (by decide) _ (j + 1) ((pre ++ [c]).map (Value.int .i64)) rfl HW5.out ⟨g5, 0, none⟩ Rc.length c5 (Rc.map (Value.int .i64)) rfl (by simp) hn5 (by intro u hu; obtain ⟨z, _, rfl⟩ := List.mem_map.1 hu; rfl) (by unfold maxLen; omega) (by omega) (by omega) ?_
              intro v6 w6 hown6 hgrow6 _
              have HB6 := Lib.hid (bl_g HBL5.out hgrow6 (ow_lo HW5.out))
              obtain ⟨r, hr⟩ : ∃ r, Rc.length = r + 1 := ⟨Rc.length - 1, by omega⟩
              have HRL5 := Lib.hid hr
              have hown6' : w6.ownsRow w1.heap.size 3 1 v6 ((j + 1 + r) + 1) ((pre ++ [c]).map (Value.int .i64) ++ Rc.map (Value.int .i64)) := by rwa [hr, ← Nat.add_assoc] at hown6
              obtain ⟨g6, cap6, rfl⟩ := ownsRow_succ hown6'
              have HO6 : Hid (OwnInts w1.heap.size w6 (.slice (some ⟨g6, 0, none⟩) (j + 1 + r + 1) cap6) ((pre ++ [c]) ++ Rc)) := Lib.hid ⟨by rw [List.length_append, List.length_append, HPL.out, HRL5.out, List.map_append]; exact hown6', fun e => by simp at e⟩
              clear hown6 hgrow6 hown6' hr hn5
              go_wp2
              go_roundw
              case rel => exact ⟨i + 1, j + 1 + r + 1, _, _, rfl, by go_num, by omega, Lib.hid (by rw [HE.out, List.length_append, List.length_append, HPL.out, HRL5.out]; rfl), Lib.hid (by rw [HE.out]; exact HO6.out), HB6⟩
              case measure => simp [intOf]; omega
            · have hRn : Rc = [] := List.length_eq_zero_iff.1 (by omega)
              have hv5 := k1.2 hRn
              subst hv5
              clear k1
              at_builtin
              refine wpList_append_own_none rfl _ _ 23 rfl w1.heap.size 3 i0 1 Tryd.underlying23 hi _ (j + 1) ((pre ++ [c]).map (Value.int .i64)) rfl HW5.out rfl ?_
              go_wp2
              go_roundw
              case rel => exact ⟨i + 1, j + 1, _, _, rfl, by go_num, by omega, Lib.hid (by rw [HE.out, hRn, List.append_nil, List.length_append, HPL.out]; rfl), Lib.hid (by rw [HE.out, hRn, List.append_nil]; exact HOW4.out.below HB5.out), HBL5⟩
              case measure => simp [intOf]; omega
      · have HE : Hid (L.flatMap part = (L.take i).flatMap part) := Lib.hid (by rw [List.take_of_length_le (by rw [HLM.out]; omega)])
        have hz1 : w.heap.size ≤ w1.heap.size := HB1.out.bl.size
        go_wp2_with fail
        go_ret
        exact ⟨_, rfl, by rw [HE.out]; exact HOW.out.base (by omega), HBR.out.bl⟩
end Go.Proofs.YtjnpinfnpnohmaaDoor
