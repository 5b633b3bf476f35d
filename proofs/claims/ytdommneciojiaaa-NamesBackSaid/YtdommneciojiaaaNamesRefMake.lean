/- Contract of clewref15.Make. -/
import Derived.Test.YtdommneciojiaaaNamesMake
import Derived.Test.YtdommneciojiaaaNamesAll
import Derived.Test.YtdommneciojiaaaNamesPut
import Derived.StillTailTactics
namespace Go.Proofs.Ytdommneciojiaaa
open Go.RowKit Go.PlainAid
set_option linter.unusedVariables false
set_option linter.unusedSimpArgs false

theorem bl_then {w x y : World} (h : Below w.heap.size w x) (g : Below x.heap.size x y) : Below w.heap.size w y := h.trans (g.mono h.size)
theorem sort_four : sortN fourN = [⟨[98, 111, 120], 1, 2⟩, ⟨[104, 105, 100, 100, 101, 110], 1, 3⟩, ⟨[108, 105, 116], 1, 0⟩, ⟨[111, 112, 101, 110], 1, 1⟩] := by decide
theorem nm_seq {w : World} {v : Value} {L : List NM} (h1 : SLN 3 w v (L.map nmCells)) (h2 : ∃ a c, v = .slice a L.length c ∧ L.length ≤ c) (hok : ∀ x ∈ L, NmOk x) : Reads Cd.nm.seq w v L := by
  obtain ⟨a, c, e, hle⟩ := h2
  refine ⟨v, L.map nmCells, rfl, ⟨h1, a, c, by simpa using e, by simpa using hle⟩, by simp, fun i h1 h2 => ?_⟩
  have hx := hok _ (List.getElem_mem h2)
  exact ⟨by simp, hx.1, hx.2.1, hx.2.2⟩
theorem reads_bk {w : World} {k c : Nat} {L : List NM} {T : TypeId} (h : BK w k ((L.map nmCells).flatten) T) (hc : L.length ≤ c) (hm : L.length ≤ maxLen) (hok : ∀ x ∈ L, NmOk x) : Reads Cd.nm.seq w (.slice (some ⟨k, 0, none⟩) L.length c) L := by
  have hr : ∀ r ∈ L.map nmCells, r.length = 3 := fun r hr => by obtain ⟨x, _, rfl⟩ := List.mem_map.1 hr; rfl
  refine nm_seq ⟨by simpa using hm, hr, .inr ⟨k, 0, c, by simp, h.lt, fun i j hi hj => ?_⟩⟩ ⟨_, c, rfl, hc⟩ hok
  rw [h.cell, Nat.zero_add]
  exact flat_at _ hr i j hi hj
theorem OwN.reads {w : World} {base : Nat} {v : Value} {L : List NM} (h : OwN w base v L) (hm : L.length ≤ maxLen) (hok : ∀ x ∈ L, NmOk x) : Reads Cd.nm.seq w v L := by
  have h1 : SLN 3 w v (L.map nmCells) := SLN.own h (by simp) (fun r hr => by obtain ⟨x, _, rfl⟩ := List.mem_map.1 hr; rfl) hm
  obtain ⟨a, cap, e, hle⟩ := ow_cap h
  exact nm_seq h1 ⟨a, cap, e, hle⟩ hok
/-- The entries' cells. -/
theorem OwE.at {w : World} {base : Nat} {v : Value} {L : List EN} (h : OwE w base v L) (hm : L.length ≤ maxLen) (hn : 0 < L.length) :
    ∃ g c, v = .slice (some ⟨g, 0, none⟩) L.length c ∧ g < w.heap.size ∧ ∀ i (hi : i < L.length) j, j < 6 → w.cell? ⟨g, i * 6 + j, none⟩ = (enC L[i])[j]? := by
  have h1 : SLN 6 w v (L.map enC) := SLN.own h (by simp) (fun r hr => by obtain ⟨x, _, rfl⟩ := List.mem_map.1 hr; rfl) hm
  rcases h.2 with ⟨_, h0⟩ | ⟨g, cap, cur, e, hbg, hg, hnc, hcm, hcs, htake⟩
  · omega
  · rcases h1.2.2 with ⟨h0, _⟩ | ⟨b, off, c, e2, hlt, hc⟩
    · rw [List.map_eq_nil_iff] at h0; rw [h0] at hn; simp at hn
    · rw [e] at e2
      simp at e2
      obtain ⟨⟨rfl, rfl⟩, rfl⟩ := e2
      refine ⟨g, cap, e, hlt, fun i hi j hj => ?_⟩
      have := hc i j (by simpa using hi) hj
      rw [Nat.zero_add] at this
      rw [this, List.getElem_map]
theorem run_same_inr {ok : List UInt8 → Bool} {es : List EN} {out T : List NM} (h : runR ok es (sortN out) = .inr T) : ∃ l, runN ok es out = .inr l ∧ sortN l = T := by
  rw [run_same] at h
  split at h
  · cases h
  · rename_i l hl
    exact ⟨l, hl, Sum.inr.inj h⟩
theorem run_same_inl {ok : List UInt8 → Bool} {es : List EN} {out : List NM} {f : Int × EN} (h : runR ok es (sortN out) = .inl f) : runN ok es out = .inl f := by
  rw [run_same] at h
  split at h
  · rename_i f' hl
    rw [hl, Sum.inl.inj h]
  · cases h
/-- What is met. -/
theorem met_find (T : List NM) (n : List UInt8) : n ∈ T.map (·.nm) ↔ (findN T n).isSome = true := by
  unfold findN
  rw [List.isSome_find?]; simp
theorem runR_step {ok : List UInt8 → Bool} {L : List EN} {p : Nat} (hp : p < L.length) {T : List NM} {R : (Int × EN) ⊕ List NM} (h : runR ok (L.drop p) T = R) : runR ok (L[p] :: L.drop (p + 1)) T = R := by rw [← List.drop_eq_getElem_cons hp]; exact h
theorem runR_bad {ok : List UInt8 → Bool} {e : EN} {es : List EN} {T : List NM} {R : (Int × EN) ⊕ List NM} {c : Int} (h : runR ok (e :: es) T = R) (hc : errN ok (T.map (·.nm)) e = c) (h0 : c ≠ 0) : R = .inl (c, e) := by
  rw [runR, hc, if_pos h0] at h; exact h.symm
theorem runR_good {ok : List UInt8 → Bool} {e : EN} {es : List EN} {T : List NM} {R : (Int × EN) ⊕ List NM} (h : runR ok (e :: es) T = R) (hc : errN ok (T.map (·.nm)) e = 0) : runR ok es (putN T ⟨e.nm, e.kd, e.num⟩) = R := by
  rw [runR, hc, if_neg (by decide)] at h; exact h
set_option maxRecDepth 100000 in
set_option maxHeartbeats 20000000 in
theorem refMake (f p g o v fn dm : Value) (d : DC) (w : World) (hs : SrcIs w f p g o v fn dm d) (hd : d.few 400) :
    Calls Try.prog 12 #[srcV f p g o v fn dm] w fun e w' => ∃ v', e = .returned (.tuple #[v', faultR (runN okN (entsD d) fourN)]) ∧ Below w.heap.size w w' ∧ Reads Cd.nm.seq w' v' (namesR (runN okN (entsD d) fourN)) := by
  have HS := Lib.hid hs
  have HD := Lib.hid hd
  obtain ⟨RR, hRR⟩ : ∃ RR, runR okN (entsD d) (sortN fourN) = RR := ⟨_, rfl⟩
  have HRR := Lib.hid hRR
  obtain ⟨R, hR⟩ : ∃ R, runN okN (entsD d) fourN = R := ⟨_, rfl⟩
  have HR := Lib.hid hR
  rw [hR]
  have HOK := Lib.hid (hs.ents_ok hd)
  have hLL : (entsD d).length ≤ 2800 := by
    have h1 := hd.fl; have h2 := hd.pr; have h3 := hd.gl; have h4 := hd.ob; have h5 := hd.ve; have h6 := hd.fu; have h7 := hd.da
    simp only [entsD, List.length_append, ents_len]; omega
  clear hR hRR hd
  obtain ⟨a1, c1, h1, g1, m1⟩ := hs.fl.len
  obtain ⟨a2, c2, h2, g2, m2⟩ := hs.pr.len
  obtain ⟨a3, c3, h3, g3, m3⟩ := hs.gl.len
  obtain ⟨a4, c4, h4, g4, m4⟩ := hs.ob.len
  obtain ⟨a5, c5, h5, g5, m5⟩ := hs.ve.len
  obtain ⟨a6, c6, h6, g6, m6⟩ := hs.fu.len
  obtain ⟨a7, c7, h7, g7, m7⟩ := hs.da.len
  subst h1 h2 h3 h4 h5 h6 h7
  clear hs g1 g2 g3 g4 g5 g6 g7
  have HALL := Lib.hid (fun W (hb : Below w.heap.size w W) => refEnts _ _ _ _ _ _ _ d W (HS.out.below hb) ⟨by have := HD.out.fl; omega, by have := HD.out.pr; omega, by have := HD.out.gl; omega, by have := HD.out.ob; omega, by have := HD.out.ve; omega, by have := HD.out.fu; omega, by have := HD.out.da; omega⟩)
  unfold srcV at HALL ⊢
  go_enter Try.func12, Try.ntmps12
  go_wp2_with fail
  simp only [Nat.add_assoc, Nat.reduceAdd]
  obtain ⟨SRC, hSRC⟩ : ∃ SRC : List Value, SRC = [.string ⟨#[]⟩, .string ⟨#[]⟩, .string ⟨#[]⟩, .int .i64 0, .int .i64 0, .slice a1 d.fl.length c1, .slice a2 d.pr.length c2, .slice a3 d.gl.length c3, .slice a4 d.ob.length c4, .slice a5 d.ve.length c5, nilV, .slice a6 d.fu.length c6, .slice a7 d.da.length c7] := ⟨_, rfl⟩
  have hk1 := ((BK.new w SRC 39).alloc (.cells zeroF.toArray 30)).alloc (.cells ((sortN fourN).map nmCells).flatten.toArray 46)
  have hk2 := (BK_at (w := w.alloc (.cells SRC.toArray 39)) (n := w.heap.size + 1) (by simp) zeroF 30).alloc (.cells ((sortN fourN).map nmCells).flatten.toArray 46)
  have hk3 := BK_at (w := (w.alloc (.cells SRC.toArray 39)).alloc (.cells zeroF.toArray 30)) (n := w.heap.size + 2) (by simp) ((sortN fourN).map nmCells).flatten 46
  have hb0 := bl_a (bl_a (bl_a (Below.refl w.heap.size w) (.cells SRC.toArray 39)) (.cells zeroF.toArray 30)) (.cells ((sortN fourN).map nmCells).flatten.toArray 46)
  have hr0 := reads_bk hk3 (Nat.le_refl _) (by decide) (fun x hx => four_ok x ((sort_perm fourN).mem_iff.1 hx))
  have h4l : (sortN fourN).length = 4 := by decide
  rw [h4l] at hr0
  obtain ⟨W0, hW0⟩ : ∃ W0, ((w.alloc (.cells SRC.toArray 39)).alloc (.cells zeroF.toArray 30)).alloc (.cells ((sortN fourN).map nmCells).flatten.toArray 46) = W0 := ⟨_, rfl⟩
  have hW1 := hW0
  rw [hSRC, sort_four] at hW1
  change ((w.alloc (.cells #[.string ⟨#[]⟩, .string ⟨#[]⟩, .string ⟨#[]⟩, .int .i64 0, .int .i64 0, .slice a1 d.fl.length c1, .slice a2 d.pr.length c2, .slice a3 d.gl.length c3, .slice a4 d.ob.length c4, .slice a5 d.ve.length c5, nilV, .slice a6 d.fu.length c6, .slice a7 d.da.length c7] 39)).alloc (.cells #[.int .i64 0, .int .i64 0, .int .i64 0, .string ⟨#[]⟩] 30)).alloc (.cells #[.string ⟨#[98, 111, 120]⟩, .int .i64 1, .int .i64 2, .string ⟨#[104, 105, 100, 100, 101, 110]⟩, .int .i64 1, .int .i64 3, .string ⟨#[108, 105, 116]⟩, .int .i64 1, .int .i64 0, .string ⟨#[111, 112, 101, 110]⟩, .int .i64 1, .int .i64 1] 46) = W0 at hW1
  rw [hW0] at hk1 hk2 hb0 hr0
  rw [hW1]
  have HK2 := Lib.hid hk2
  have HB0 := Lib.hid hb0
  have HR0 := Lib.hid hr0
  clear hk1 hk2 hk3 hb0 hr0 hW0 hW1 hSRC h4l
  refine (HALL.out W0 HB0.out).mono ?_
  rintro e w1 ⟨r, rfl, hO, hB1⟩
  have HO := Lib.hid hO
  have HB1 := Lib.hid (bl_then HB0.out hB1)
  have HK3 := Lib.hid (HK2.out.below hB1)
  have HR1 := Lib.hid (HR0.out.below hB1)
  clear hO hB1 HK2 HB0 HR0 HALL
  obtain ⟨L, hL⟩ : ∃ L, L = entsD d := ⟨_, rfl⟩
  rw [← hL] at HO HOK hLL HRR
  have HL := Lib.hid hL
  obtain ⟨ra, rc, hrv⟩ := ow_shape HO.out
  subst hrv
  clear hL
  go_wp2
  go_loopw [4, 6] (fun t i wr => ∃ (p : Nat) (T : List NM), i = .int .i64 p ∧ p ≤ L.length ∧ T.length ≤ 4 + p ∧ 0 < T.length ∧ Hid (Reads Cd.nm.seq wr t T) ∧ Hid (∀ x ∈ T, NmOk x) ∧ Hid (Below w.heap.size w wr) ∧ Hid (Below w1.heap.size w1 wr) ∧ Hid (BK wr (w.heap.size + 1) zeroF 30) ∧ Hid (∀ k, t.ownBlock = some k → w.heap.size + 2 ≤ k) ∧ Hid (runR okN (L.drop p) T = RR)) (fun _ i _ => L.length - (intOf i).toNat)
  case atStart => exact ⟨0, sortN fourN, rfl, Nat.zero_le _, by decide, by decide, HR1, Lib.hid (fun x hx => four_ok x ((sort_perm fourN).mem_iff.1 hx)), HB1, Lib.hid (Below.refl _ _), HK3, Lib.hid (fun k hk => by have := Option.some.inj (show some (w.heap.size + 2) = some k from hk); omega), HRR⟩
  case round =>
    obtain ⟨p, T, rfl, hpl, hTl, hT0, hT, hTok, hB, hB1, hK, hOB, hrun⟩ := hrel
    by_cases hlt : p < L.length
    · obtain ⟨g, c, hv, hg, hcell⟩ := HO.out.at (by unfold maxLen; omega) (by omega)
      have hac : ra = some ⟨g, 0, none⟩ := by simp at hv; exact hv.1
      subst hac
      have HC := Lib.hid (fun (w' : World) (hb : Below w1.heap.size w1 w') j (hj : j < 6) => (hb.cell (p := ⟨g, p * 6 + j, none⟩) hg).trans (hcell p hlt j hj))
      have HRP := Lib.hid (runR_step hlt hrun.out)
      have HOKX := Lib.hid (HOK.out _ (List.getElem_mem hlt))
      generalize L[p] = x at HC HRP HOKX
      have e0 := HC.out wr hB1.out 0 (by decide)
      simp only [enC, List.getElem?_cons_zero, Nat.add_zero] at e0
      obtain ⟨ta, tc, htv, htc, _⟩ := hT.out.len
      subst htv
      clear hcell hv hrun
      have HF := Lib.hid (refFind _ T x.nm wr hT.out (by omega))
      go_wp2_with fail
      refine HF.out.mono ?_
      rintro e w2 ⟨rfl, hB2⟩
      have HB2 := Lib.hid (bl_then hB.out hB2)
      have HK2 := Lib.hid (hK.out.below hB2)
      have HT2 := Lib.hid (hT.out.below hB2)
      have hsz : (mkB x.nm).size = x.nm.length := rfl
      have hxl := HOKX.out.1
      have HI0 := Lib.hid (fun w => refIsName (mkB x.nm) w (by unfold maxLen at hxl; rw [hsz]; omega))
      have HK0 := Lib.hid (fun w => refKey (mkB x.nm) w)
      clear HF hsz
      cases hf : findN T x.nm with
      | none =>
        have hmem : ¬ x.nm ∈ T.map (·.nm) := fun h => by rw [met_find, hf] at h; cases h
        rw [show nmV ((none : Option NM).getD zeroNM) = nmV zeroNM from rfl, nmV_zero, show (none : Option NM).isSome = false from rfl]
        clear hf
        have qw : ∀ o : Obj, (w2.alloc o).cell? ⟨g, p * 6, none⟩ = some (.string (mkB x.nm)) := fun o => HC.out _ (bl_a (bl_then hB1.out hB2) o) 0 (by decide)
        go_wp2_with fail
        clear qw
        generalize hW : w2.alloc _ = W1
        have hb3 : Below w2.heap.size w2 W1 := by rw [← hW]; exact bl_a (Below.refl _ _) _
        have HBW := Lib.hid (bl_then HB2.out hb3)
        have HKW : Hid (BK W1 (w.heap.size + 1) [.int .i64 0, .int .i64 0, .int .i64 0, .string ⟨#[]⟩] 30) := Lib.hid (HK2.out.below hb3)
        have HTW := Lib.hid (HT2.out.below hb3)
        have hb1W := bl_then (bl_then hB1.out hB2) hb3
        have HB1W := Lib.hid hb1W
        have q0 := HC.out W1 hb1W 0 (by decide)
        have q1 := HC.out W1 hb1W 1 (by decide)
        have q2 := HC.out W1 hb1W 2 (by decide)
        have q3 := HC.out W1 hb1W 3 (by decide)
        have q4 := HC.out W1 hb1W 4 (by decide)
        have q5 := HC.out W1 hb1W 5 (by decide)
        simp only [enC, List.getElem?_cons_zero, List.getElem?_cons_succ, Nat.add_zero] at q0 q1 q2 q3 q4 q5
        have f0 := HKW.out.cell 0
        have f1 := HKW.out.cell 1
        have f2 := HKW.out.cell 2
        have f3 := HKW.out.cell 3
        have r0 := HKW.out.fr 0
        have r1 := HKW.out.fr 1
        have r2 := HKW.out.fr 2
        have r3 := HKW.out.fr 3
        simp only [List.getElem?_cons_zero, List.getElem?_cons_succ] at f0 f1 f2 f3
        clear hW hb3 hb1W e0
        have HB2' := Lib.hid hB2
        clear hB2
        have hk0 : (0 : Int) ≤ (p : Int) := by omega
        have hk1 : (p : Int) < (L.length : Int) := by omega
        cases hI : isNameL x.nm with
        | false =>
          have HI : Hid (∀ w, Calls Try.prog 30 #[.string (mkB x.nm)] w fun e w' => e = .returned (.bool false) ∧ w = w') := Lib.hid (fun w => by have := HI0.out w; rwa [show isNameS (mkB x.nm) = false from hI] at this)
          have HKY := HI
          have hok : okN x.nm = false := by unfold okN; rw [hI]; rfl
          clear hI
          by_cases h7 : x.most ≤ (x.at_ : Int)
          · have HE : Hid (RR = .inl (7, x)) := Lib.hid (runR_bad HRP.out (if_pos h7) (by decide))
            go_wp2_with (first | (go_at_call 30; refine (HI.out _).mono ?_; rintro e w' ⟨rfl, rfl⟩) | (go_at_call 31; refine (HKY.out _).mono ?_; rintro e w' ⟨rfl, rfl⟩))
            go_quiet (fail)
            go_wp2
            go_region
            go_wp2
            (try simp only [Exit.inBlock, Exit.then])
            (try rw [Exit.noGoto_ret])
            have g := fault_set HKW.out (.int .i64 7) (.int .i64 x.part) (.int .i64 x.at_) (.string (mkB x.nm))
            have g0 := g.cell 0
            have g1 := g.cell 1
            have g2 := g.cell 2
            have g3 := g.cell 3
            simp only [List.getElem?_cons_zero, List.getElem?_cons_succ] at g0 g1 g2 g3
            clear g
            have hRin : R = .inl (7, x) := by rw [← HR.out]; exact run_same_inl (by rw [← HL.out, HRR.out, HE.out])
            refine bodyPost_ret (v := .tuple #[nilV, .agg #[.int .i64 7, .int .i64 x.part, .int .i64 x.at_, .string (mkB x.nm)]]) ?_ rfl ⟨nilV, ?_, ?_, ?_⟩
            · rw [results_tmp_cell rfl]; go_simp
            · rw [hRin]; rfl
            · first | exact bl_drewN (bl_s (bl_s (bl_s (bl_s HBW.out _ _) _ _) _ _) _ _) _ | exact (bl_s (bl_s (bl_s (bl_s (bl_drewN HBW.out _) _ _) _ _) _ _) _ _).drew
            · rw [hRin]; exact reads_nil _
          · have HE : Hid (RR = .inl (9, x)) := Lib.hid (runR_bad HRP.out ((if_neg h7).trans (if_pos hok)) (by decide))
            go_wp2_with (first | (go_at_call 30; refine (HI.out _).mono ?_; rintro e w' ⟨rfl, rfl⟩) | (go_at_call 31; refine (HKY.out _).mono ?_; rintro e w' ⟨rfl, rfl⟩))
            go_quiet (fail)
            go_wp2
            go_region
            go_wp2
            (try simp only [Exit.inBlock, Exit.then])
            (try rw [Exit.noGoto_ret])
            have g := fault_set HKW.out (.int .i64 9) (.int .i64 x.part) (.int .i64 x.at_) (.string (mkB x.nm))
            have g0 := g.cell 0
            have g1 := g.cell 1
            have g2 := g.cell 2
            have g3 := g.cell 3
            simp only [List.getElem?_cons_zero, List.getElem?_cons_succ] at g0 g1 g2 g3
            clear g
            have hRin : R = .inl (9, x) := by rw [← HR.out]; exact run_same_inl (by rw [← HL.out, HRR.out, HE.out])
            refine bodyPost_ret (v := .tuple #[nilV, .agg #[.int .i64 9, .int .i64 x.part, .int .i64 x.at_, .string (mkB x.nm)]]) ?_ rfl ⟨nilV, ?_, ?_, ?_⟩
            · rw [results_tmp_cell rfl]; go_simp
            · rw [hRin]; rfl
            · first | exact bl_drewN (bl_s (bl_s (bl_s (bl_s HBW.out _ _) _ _) _ _) _ _) _ | exact (bl_s (bl_s (bl_s (bl_s (bl_drewN HBW.out _) _ _) _ _) _ _) _ _).drew
            · rw [hRin]; exact reads_nil _
        | true =>
          have HI : Hid (∀ w, Calls Try.prog 30 #[.string (mkB x.nm)] w fun e w' => e = .returned (.bool true) ∧ w = w') := Lib.hid (fun w => by have := HI0.out w; rwa [show isNameS (mkB x.nm) = true from hI] at this)
          cases hY : keyL x.nm with
          | true =>
            have HKY : Hid (∀ w, Calls Try.prog 31 #[.string (mkB x.nm)] w fun e w' => e = .returned (.bool true) ∧ w = w') := Lib.hid (fun w => by have := HK0.out w; rwa [show keyL (mkB x.nm).data.toList = true from hY] at this)
            have hok : okN x.nm = false := by unfold okN; rw [hI, hY]; rfl
            clear hI hY
            by_cases h7 : x.most ≤ (x.at_ : Int)
            · have HE : Hid (RR = .inl (7, x)) := Lib.hid (runR_bad HRP.out (if_pos h7) (by decide))
              go_wp2_with (first | (go_at_call 30; refine (HI.out _).mono ?_; rintro e w' ⟨rfl, rfl⟩) | (go_at_call 31; refine (HKY.out _).mono ?_; rintro e w' ⟨rfl, rfl⟩))
              go_quiet (fail)
              go_wp2
              go_region
              go_wp2
              (try simp only [Exit.inBlock, Exit.then])
              (try rw [Exit.noGoto_ret])
              have g := fault_set HKW.out (.int .i64 7) (.int .i64 x.part) (.int .i64 x.at_) (.string (mkB x.nm))
              have g0 := g.cell 0
              have g1 := g.cell 1
              have g2 := g.cell 2
              have g3 := g.cell 3
              simp only [List.getElem?_cons_zero, List.getElem?_cons_succ] at g0 g1 g2 g3
              clear g
              have hRin : R = .inl (7, x) := by rw [← HR.out]; exact run_same_inl (by rw [← HL.out, HRR.out, HE.out])
              refine bodyPost_ret (v := .tuple #[nilV, .agg #[.int .i64 7, .int .i64 x.part, .int .i64 x.at_, .string (mkB x.nm)]]) ?_ rfl ⟨nilV, ?_, ?_, ?_⟩
              · rw [results_tmp_cell rfl]; go_simp
              · rw [hRin]; rfl
              · first | exact bl_drewN (bl_s (bl_s (bl_s (bl_s HBW.out _ _) _ _) _ _) _ _) _ | exact (bl_s (bl_s (bl_s (bl_s (bl_drewN HBW.out _) _ _) _ _) _ _) _ _).drew
              · rw [hRin]; exact reads_nil _
            · have HE : Hid (RR = .inl (9, x)) := Lib.hid (runR_bad HRP.out ((if_neg h7).trans (if_pos hok)) (by decide))
              go_wp2_with (first | (go_at_call 30; refine (HI.out _).mono ?_; rintro e w' ⟨rfl, rfl⟩) | (go_at_call 31; refine (HKY.out _).mono ?_; rintro e w' ⟨rfl, rfl⟩))
              go_quiet (fail)
              go_wp2
              go_region
              go_wp2
              (try simp only [Exit.inBlock, Exit.then])
              (try rw [Exit.noGoto_ret])
              have g := fault_set HKW.out (.int .i64 9) (.int .i64 x.part) (.int .i64 x.at_) (.string (mkB x.nm))
              have g0 := g.cell 0
              have g1 := g.cell 1
              have g2 := g.cell 2
              have g3 := g.cell 3
              simp only [List.getElem?_cons_zero, List.getElem?_cons_succ] at g0 g1 g2 g3
              clear g
              have hRin : R = .inl (9, x) := by rw [← HR.out]; exact run_same_inl (by rw [← HL.out, HRR.out, HE.out])
              refine bodyPost_ret (v := .tuple #[nilV, .agg #[.int .i64 9, .int .i64 x.part, .int .i64 x.at_, .string (mkB x.nm)]]) ?_ rfl ⟨nilV, ?_, ?_, ?_⟩
              · rw [results_tmp_cell rfl]; go_simp
              · rw [hRin]; rfl
              · first | exact bl_drewN (bl_s (bl_s (bl_s (bl_s HBW.out _ _) _ _) _ _) _ _) _ | exact (bl_s (bl_s (bl_s (bl_s (bl_drewN HBW.out _) _ _) _ _) _ _) _ _).drew
              · rw [hRin]; exact reads_nil _
          | false =>
            have HKY : Hid (∀ w, Calls Try.prog 31 #[.string (mkB x.nm)] w fun e w' => e = .returned (.bool false) ∧ w = w') := Lib.hid (fun w => by have := HK0.out w; rwa [show keyL (mkB x.nm).data.toList = false from hY] at this)
            have hok : ¬ okN x.nm = false := by unfold okN; rw [hI, hY]; decide
            clear hI hY
            by_cases h7 : x.most ≤ (x.at_ : Int)
            · have HE : Hid (RR = .inl (7, x)) := Lib.hid (runR_bad HRP.out (if_pos h7) (by decide))
              go_wp2_with (first | (go_at_call 30; refine (HI.out _).mono ?_; rintro e w' ⟨rfl, rfl⟩) | (go_at_call 31; refine (HKY.out _).mono ?_; rintro e w' ⟨rfl, rfl⟩))
              go_quiet (fail)
              go_wp2
              go_region
              go_wp2
              (try simp only [Exit.inBlock, Exit.then])
              (try rw [Exit.noGoto_ret])
              have g := fault_set HKW.out (.int .i64 7) (.int .i64 x.part) (.int .i64 x.at_) (.string (mkB x.nm))
              have g0 := g.cell 0
              have g1 := g.cell 1
              have g2 := g.cell 2
              have g3 := g.cell 3
              simp only [List.getElem?_cons_zero, List.getElem?_cons_succ] at g0 g1 g2 g3
              clear g
              have hRin : R = .inl (7, x) := by rw [← HR.out]; exact run_same_inl (by rw [← HL.out, HRR.out, HE.out])
              refine bodyPost_ret (v := .tuple #[nilV, .agg #[.int .i64 7, .int .i64 x.part, .int .i64 x.at_, .string (mkB x.nm)]]) ?_ rfl ⟨nilV, ?_, ?_, ?_⟩
              · rw [results_tmp_cell rfl]; go_simp
              · rw [hRin]; rfl
              · first | exact bl_drewN (bl_s (bl_s (bl_s (bl_s HBW.out _ _) _ _) _ _) _ _) _ | exact (bl_s (bl_s (bl_s (bl_s (bl_drewN HBW.out _) _ _) _ _) _ _) _ _).drew
              · rw [hRin]; exact reads_nil _
            · have HE := Lib.hid (runR_good HRP.out ((if_neg h7).trans ((if_neg hok).trans (if_neg hmem))))
              have HPUT := Lib.hid (fun w' (hr : Reads Cd.nm.seq w' (.slice ta T.length tc) T) => refPut _ T ⟨x.nm, x.kd, x.num⟩ w' hr (by omega) hT0)
              go_wp2_with (first | (go_at_call 30; refine (HI.out _).mono ?_; rintro e w' ⟨rfl, rfl⟩) | (go_at_call 31; refine (HKY.out _).mono ?_; rintro e w' ⟨rfl, rfl⟩))
              go_quiet (fail)
              go_wp2_with fail
              generalize hW2 : World.drewN W1 _ = W2
              have hd : Below W1.heap.size W1 W2 := by rw [← hW2]; exact bl_drewN (Below.refl _ _) _
              have HB3 := Lib.hid (bl_then HBW.out hd)
              have HB13 := Lib.hid (bl_then HB1W.out hd)
              have HK3' := Lib.hid (HKW.out.below hd)
              have HT3 := Lib.hid (HTW.out.below hd)
              have q0 := HC.out W2 (bl_then HB1W.out hd) 0 (by decide)
              have q1 := HC.out W2 (bl_then HB1W.out hd) 1 (by decide)
              have q4 := HC.out W2 (bl_then HB1W.out hd) 4 (by decide)
              simp only [enC, List.getElem?_cons_zero, List.getElem?_cons_succ, Nat.add_zero] at q0 q1 q4
              clear hW2 hd
              go_still_tail 17, (by kernel_rfl)
              repeat still_step
              try refine wpStill_nil ?_
              change wpList _ _ _ _ _ (W2.drewN 1)
              go_wp2_with (go_at_call 32; refine (HPUT.out _ (HT3.out.below (bl_drewN (Below.refl _ _) _))).mono ?_; rintro e w3 ⟨r, rfl, hO3, hB3⟩)
              have HB5 := Lib.hid (bl_then (bl_drewN HB3.out _) hB3)
              have HB15 := Lib.hid (bl_then (bl_drewN HB13.out _) hB3)
              have HK5 := Lib.hid ((HK3'.out.drewN _).below hB3)
              have HL5 : Hid ((putN T ⟨x.nm, x.kd, x.num⟩).length = T.length + 1) := Lib.hid (by rw [(put_perm T ⟨x.nm, x.kd, x.num⟩).length_eq]; rfl)
              have HOK5 : Hid (∀ y ∈ putN T ⟨x.nm, x.kd, x.num⟩, NmOk y) := Lib.hid (fun y hy => by
                rcases (put_mem T _ y).1 hy with e | e
                · rw [e]; exact HOKX.out
                · exact hTok.out y e)
              have HOB5 : Hid (∀ k, r.ownBlock = some k → w.heap.size + 2 ≤ k) := Lib.hid (fun k hk => by have h1 := ow_lo hO3 k hk; have h2 := HK3'.out.lt; simp only [World.heap_drewN] at h1; omega)
              have HT5 := Lib.hid (OwN.reads hO3 (by rw [HL5.out]; unfold maxLen; omega) HOK5.out)
              clear hO3 hB3
              go_roundw
              case rel => exact ⟨p + 1, _, by go_num, by omega, by rw [HL5.out]; omega, by rw [HL5.out]; omega, HT5, HOK5, HB5, HB15, HK5, HOB5, HE⟩
              case measure => simp [intOf]; omega
      | some y =>
        have hmem : x.nm ∈ T.map (·.nm) := by rw [met_find, hf]; rfl
        rw [show nmV ((some y).getD zeroNM) = nmV y from rfl, nmV_eq, show (some y).isSome = true from rfl]
        clear hf
        have qw : ∀ o : Obj, (w2.alloc o).cell? ⟨g, p * 6, none⟩ = some (.string (mkB x.nm)) := fun o => HC.out _ (bl_a (bl_then hB1.out hB2) o) 0 (by decide)
        go_wp2_with fail
        clear qw
        generalize hW : w2.alloc _ = W1
        have hb3 : Below w2.heap.size w2 W1 := by rw [← hW]; exact bl_a (Below.refl _ _) _
        have HBW := Lib.hid (bl_then HB2.out hb3)
        have HKW : Hid (BK W1 (w.heap.size + 1) [.int .i64 0, .int .i64 0, .int .i64 0, .string ⟨#[]⟩] 30) := Lib.hid (HK2.out.below hb3)
        have HTW := Lib.hid (HT2.out.below hb3)
        have hb1W := bl_then (bl_then hB1.out hB2) hb3
        have HB1W := Lib.hid hb1W
        have q0 := HC.out W1 hb1W 0 (by decide)
        have q1 := HC.out W1 hb1W 1 (by decide)
        have q2 := HC.out W1 hb1W 2 (by decide)
        have q3 := HC.out W1 hb1W 3 (by decide)
        have q4 := HC.out W1 hb1W 4 (by decide)
        have q5 := HC.out W1 hb1W 5 (by decide)
        simp only [enC, List.getElem?_cons_zero, List.getElem?_cons_succ, Nat.add_zero] at q0 q1 q2 q3 q4 q5
        have f0 := HKW.out.cell 0
        have f1 := HKW.out.cell 1
        have f2 := HKW.out.cell 2
        have f3 := HKW.out.cell 3
        have r0 := HKW.out.fr 0
        have r1 := HKW.out.fr 1
        have r2 := HKW.out.fr 2
        have r3 := HKW.out.fr 3
        simp only [List.getElem?_cons_zero, List.getElem?_cons_succ] at f0 f1 f2 f3
        clear hW hb3 hb1W e0
        have HB2' := Lib.hid hB2
        clear hB2
        have hk0 : (0 : Int) ≤ (p : Int) := by omega
        have hk1 : (p : Int) < (L.length : Int) := by omega
        cases hI : isNameL x.nm with
        | false =>
          have HI : Hid (∀ w, Calls Try.prog 30 #[.string (mkB x.nm)] w fun e w' => e = .returned (.bool false) ∧ w = w') := Lib.hid (fun w => by have := HI0.out w; rwa [show isNameS (mkB x.nm) = false from hI] at this)
          have HKY := HI
          have hok : okN x.nm = false := by unfold okN; rw [hI]; rfl
          clear hI
          by_cases h7 : x.most ≤ (x.at_ : Int)
          · have HE : Hid (RR = .inl (7, x)) := Lib.hid (runR_bad HRP.out (if_pos h7) (by decide))
            go_wp2_with (first | (go_at_call 30; refine (HI.out _).mono ?_; rintro e w' ⟨rfl, rfl⟩) | (go_at_call 31; refine (HKY.out _).mono ?_; rintro e w' ⟨rfl, rfl⟩))
            go_quiet (fail)
            go_wp2
            go_region
            go_wp2
            (try simp only [Exit.inBlock, Exit.then])
            (try rw [Exit.noGoto_ret])
            have g := fault_set HKW.out (.int .i64 7) (.int .i64 x.part) (.int .i64 x.at_) (.string (mkB x.nm))
            have g0 := g.cell 0
            have g1 := g.cell 1
            have g2 := g.cell 2
            have g3 := g.cell 3
            simp only [List.getElem?_cons_zero, List.getElem?_cons_succ] at g0 g1 g2 g3
            clear g
            have hRin : R = .inl (7, x) := by rw [← HR.out]; exact run_same_inl (by rw [← HL.out, HRR.out, HE.out])
            refine bodyPost_ret (v := .tuple #[nilV, .agg #[.int .i64 7, .int .i64 x.part, .int .i64 x.at_, .string (mkB x.nm)]]) ?_ rfl ⟨nilV, ?_, ?_, ?_⟩
            · rw [results_tmp_cell rfl]; go_simp
            · rw [hRin]; rfl
            · first | exact bl_drewN (bl_s (bl_s (bl_s (bl_s HBW.out _ _) _ _) _ _) _ _) _ | exact (bl_s (bl_s (bl_s (bl_s (bl_drewN HBW.out _) _ _) _ _) _ _) _ _).drew
            · rw [hRin]; exact reads_nil _
          · have HE : Hid (RR = .inl (9, x)) := Lib.hid (runR_bad HRP.out ((if_neg h7).trans (if_pos hok)) (by decide))
            go_wp2_with (first | (go_at_call 30; refine (HI.out _).mono ?_; rintro e w' ⟨rfl, rfl⟩) | (go_at_call 31; refine (HKY.out _).mono ?_; rintro e w' ⟨rfl, rfl⟩))
            go_quiet (fail)
            go_wp2
            go_region
            go_wp2
            (try simp only [Exit.inBlock, Exit.then])
            (try rw [Exit.noGoto_ret])
            have g := fault_set HKW.out (.int .i64 9) (.int .i64 x.part) (.int .i64 x.at_) (.string (mkB x.nm))
            have g0 := g.cell 0
            have g1 := g.cell 1
            have g2 := g.cell 2
            have g3 := g.cell 3
            simp only [List.getElem?_cons_zero, List.getElem?_cons_succ] at g0 g1 g2 g3
            clear g
            have hRin : R = .inl (9, x) := by rw [← HR.out]; exact run_same_inl (by rw [← HL.out, HRR.out, HE.out])
            refine bodyPost_ret (v := .tuple #[nilV, .agg #[.int .i64 9, .int .i64 x.part, .int .i64 x.at_, .string (mkB x.nm)]]) ?_ rfl ⟨nilV, ?_, ?_, ?_⟩
            · rw [results_tmp_cell rfl]; go_simp
            · rw [hRin]; rfl
            · first | exact bl_drewN (bl_s (bl_s (bl_s (bl_s HBW.out _ _) _ _) _ _) _ _) _ | exact (bl_s (bl_s (bl_s (bl_s (bl_drewN HBW.out _) _ _) _ _) _ _) _ _).drew
            · rw [hRin]; exact reads_nil _
        | true =>
          have HI : Hid (∀ w, Calls Try.prog 30 #[.string (mkB x.nm)] w fun e w' => e = .returned (.bool true) ∧ w = w') := Lib.hid (fun w => by have := HI0.out w; rwa [show isNameS (mkB x.nm) = true from hI] at this)
          cases hY : keyL x.nm with
          | true =>
            have HKY : Hid (∀ w, Calls Try.prog 31 #[.string (mkB x.nm)] w fun e w' => e = .returned (.bool true) ∧ w = w') := Lib.hid (fun w => by have := HK0.out w; rwa [show keyL (mkB x.nm).data.toList = true from hY] at this)
            have hok : okN x.nm = false := by unfold okN; rw [hI, hY]; rfl
            clear hI hY
            by_cases h7 : x.most ≤ (x.at_ : Int)
            · have HE : Hid (RR = .inl (7, x)) := Lib.hid (runR_bad HRP.out (if_pos h7) (by decide))
              go_wp2_with (first | (go_at_call 30; refine (HI.out _).mono ?_; rintro e w' ⟨rfl, rfl⟩) | (go_at_call 31; refine (HKY.out _).mono ?_; rintro e w' ⟨rfl, rfl⟩))
              go_quiet (fail)
              go_wp2
              go_region
              go_wp2
              (try simp only [Exit.inBlock, Exit.then])
              (try rw [Exit.noGoto_ret])
              have g := fault_set HKW.out (.int .i64 7) (.int .i64 x.part) (.int .i64 x.at_) (.string (mkB x.nm))
              have g0 := g.cell 0
              have g1 := g.cell 1
              have g2 := g.cell 2
              have g3 := g.cell 3
              simp only [List.getElem?_cons_zero, List.getElem?_cons_succ] at g0 g1 g2 g3
              clear g
              have hRin : R = .inl (7, x) := by rw [← HR.out]; exact run_same_inl (by rw [← HL.out, HRR.out, HE.out])
              refine bodyPost_ret (v := .tuple #[nilV, .agg #[.int .i64 7, .int .i64 x.part, .int .i64 x.at_, .string (mkB x.nm)]]) ?_ rfl ⟨nilV, ?_, ?_, ?_⟩
              · rw [results_tmp_cell rfl]; go_simp
              · rw [hRin]; rfl
              · first | exact bl_drewN (bl_s (bl_s (bl_s (bl_s HBW.out _ _) _ _) _ _) _ _) _ | exact (bl_s (bl_s (bl_s (bl_s (bl_drewN HBW.out _) _ _) _ _) _ _) _ _).drew
              · rw [hRin]; exact reads_nil _
            · have HE : Hid (RR = .inl (9, x)) := Lib.hid (runR_bad HRP.out ((if_neg h7).trans (if_pos hok)) (by decide))
              go_wp2_with (first | (go_at_call 30; refine (HI.out _).mono ?_; rintro e w' ⟨rfl, rfl⟩) | (go_at_call 31; refine (HKY.out _).mono ?_; rintro e w' ⟨rfl, rfl⟩))
              go_quiet (fail)
              go_wp2
              go_region
              go_wp2
              (try simp only [Exit.inBlock, Exit.then])
              (try rw [Exit.noGoto_ret])
              have g := fault_set HKW.out (.int .i64 9) (.int .i64 x.part) (.int .i64 x.at_) (.string (mkB x.nm))
              have g0 := g.cell 0
              have g1 := g.cell 1
              have g2 := g.cell 2
              have g3 := g.cell 3
              simp only [List.getElem?_cons_zero, List.getElem?_cons_succ] at g0 g1 g2 g3
              clear g
              have hRin : R = .inl (9, x) := by rw [← HR.out]; exact run_same_inl (by rw [← HL.out, HRR.out, HE.out])
              refine bodyPost_ret (v := .tuple #[nilV, .agg #[.int .i64 9, .int .i64 x.part, .int .i64 x.at_, .string (mkB x.nm)]]) ?_ rfl ⟨nilV, ?_, ?_, ?_⟩
              · rw [results_tmp_cell rfl]; go_simp
              · rw [hRin]; rfl
              · first | exact bl_drewN (bl_s (bl_s (bl_s (bl_s HBW.out _ _) _ _) _ _) _ _) _ | exact (bl_s (bl_s (bl_s (bl_s (bl_drewN HBW.out _) _ _) _ _) _ _) _ _).drew
              · rw [hRin]; exact reads_nil _
          | false =>
            have HKY : Hid (∀ w, Calls Try.prog 31 #[.string (mkB x.nm)] w fun e w' => e = .returned (.bool false) ∧ w = w') := Lib.hid (fun w => by have := HK0.out w; rwa [show keyL (mkB x.nm).data.toList = false from hY] at this)
            have hok : ¬ okN x.nm = false := by unfold okN; rw [hI, hY]; decide
            clear hI hY
            by_cases h7 : x.most ≤ (x.at_ : Int)
            · have HE : Hid (RR = .inl (7, x)) := Lib.hid (runR_bad HRP.out (if_pos h7) (by decide))
              go_wp2_with (first | (go_at_call 30; refine (HI.out _).mono ?_; rintro e w' ⟨rfl, rfl⟩) | (go_at_call 31; refine (HKY.out _).mono ?_; rintro e w' ⟨rfl, rfl⟩))
              go_quiet (fail)
              go_wp2
              go_region
              go_wp2
              (try simp only [Exit.inBlock, Exit.then])
              (try rw [Exit.noGoto_ret])
              have g := fault_set HKW.out (.int .i64 7) (.int .i64 x.part) (.int .i64 x.at_) (.string (mkB x.nm))
              have g0 := g.cell 0
              have g1 := g.cell 1
              have g2 := g.cell 2
              have g3 := g.cell 3
              simp only [List.getElem?_cons_zero, List.getElem?_cons_succ] at g0 g1 g2 g3
              clear g
              have hRin : R = .inl (7, x) := by rw [← HR.out]; exact run_same_inl (by rw [← HL.out, HRR.out, HE.out])
              refine bodyPost_ret (v := .tuple #[nilV, .agg #[.int .i64 7, .int .i64 x.part, .int .i64 x.at_, .string (mkB x.nm)]]) ?_ rfl ⟨nilV, ?_, ?_, ?_⟩
              · rw [results_tmp_cell rfl]; go_simp
              · rw [hRin]; rfl
              · first | exact bl_drewN (bl_s (bl_s (bl_s (bl_s HBW.out _ _) _ _) _ _) _ _) _ | exact (bl_s (bl_s (bl_s (bl_s (bl_drewN HBW.out _) _ _) _ _) _ _) _ _).drew
              · rw [hRin]; exact reads_nil _
            · have HE : Hid (RR = .inl (10, x)) := Lib.hid (runR_bad HRP.out ((if_neg h7).trans ((if_neg hok).trans (if_pos hmem))) (by decide))
              go_wp2_with (first | (go_at_call 30; refine (HI.out _).mono ?_; rintro e w' ⟨rfl, rfl⟩) | (go_at_call 31; refine (HKY.out _).mono ?_; rintro e w' ⟨rfl, rfl⟩))
              go_quiet (fail)
              go_wp2
              go_region
              go_wp2
              (try simp only [Exit.inBlock, Exit.then])
              (try rw [Exit.noGoto_ret])
              have g := fault_set HKW.out (.int .i64 10) (.int .i64 x.part) (.int .i64 x.at_) (.string (mkB x.nm))
              have g0 := g.cell 0
              have g1 := g.cell 1
              have g2 := g.cell 2
              have g3 := g.cell 3
              simp only [List.getElem?_cons_zero, List.getElem?_cons_succ] at g0 g1 g2 g3
              clear g
              have hRin : R = .inl (10, x) := by rw [← HR.out]; exact run_same_inl (by rw [← HL.out, HRR.out, HE.out])
              refine bodyPost_ret (v := .tuple #[nilV, .agg #[.int .i64 10, .int .i64 x.part, .int .i64 x.at_, .string (mkB x.nm)]]) ?_ rfl ⟨nilV, ?_, ?_, ?_⟩
              · rw [results_tmp_cell rfl]; go_simp
              · rw [hRin]; rfl
              · first | exact bl_drewN (bl_s (bl_s (bl_s (bl_s HBW.out _ _) _ _) _ _) _ _) _ | exact (bl_s (bl_s (bl_s (bl_s (bl_drewN HBW.out _) _ _) _ _) _ _) _ _).drew
              · rw [hRin]; exact reads_nil _
    · have hpe : p = L.length := by omega
      have HE : Hid (RR = .inr T) := Lib.hid (by have h := hrun.out; rw [hpe, List.drop_length] at h; exact h.symm)
      obtain ⟨l, hl1, hl2⟩ := run_same_inr (HRR.out.trans HE.out)
      rw [HL.out, HR.out] at hl1
      have hk := hK.out
      unfold zeroF at hk
      have f0 := hk.cell 0
      have f1 := hk.cell 1
      have f2 := hk.cell 2
      have f3 := hk.cell 3
      have r0 := hk.fr 0
      have r1 := hk.fr 1
      have r2 := hk.fr 2
      have r3 := hk.fr 3
      simp only [List.getElem?_cons_zero, List.getElem?_cons_succ] at f0 f1 f2 f3
      have g := (((hk.set 0 (.int .i64 0)).set 1 (.int .i64 0)).set 2 (.int .i64 0)).set 3 (.string ⟨#[]⟩)
      have g0 := g.cell 0
      have g1 := g.cell 1
      have g2 := g.cell 2
      have g3 := g.cell 3
      simp only [List.getElem?_cons_zero, List.getElem?_cons_succ, List.set_cons_zero, List.set_cons_succ] at g0 g1 g2 g3
      have HL1 := Lib.hid hl1
      have HL2 := Lib.hid hl2
      clear g hk hl1 hl2
      obtain ⟨ta, tc, htv, htc, _⟩ := hT.out.len
      subst htv
      go_wp2
      (try simp only [Exit.inBlock, Exit.then])
      (try rw [Exit.noGoto_ret])
      have hB9 : Below w.heap.size w ((((wr.setCell ⟨w.heap.size + 1, 0, none⟩ (.int .i64 0)).setCell ⟨w.heap.size + 1, 1, none⟩ (.int .i64 0)).setCell ⟨w.heap.size + 1, 2, none⟩ (.int .i64 0)).setCell ⟨w.heap.size + 1, 3, none⟩ (.string ⟨#[]⟩)) := bl_s (bl_s (bl_s (bl_s hB.out _ _) _ _) _ _) _ _
      have hne : ∀ j, some (w.heap.size + 1) = some j → (Value.slice ta T.length tc).ownBlock ≠ some j := fun j hj e => by have := hOB.out j e; have := Option.some.inj hj; omega
      refine bodyPost_ret (v := .tuple #[.slice ta T.length tc, .agg #[.int .i64 0, .int .i64 0, .int .i64 0, .string ⟨#[]⟩]]) ?_ rfl ⟨.slice ta T.length tc, ?_, hB9, ?_⟩
      · rw [results_tmp_cell rfl]; go_simp
      · rw [HL1.out]; rfl
      · rw [HL1.out]
        show Reads Cd.nm.seq _ _ (sortN l)
        rw [HL2.out]
        exact Reads.kept (fun _ _ _ _ h => h) (Reads.kept (fun _ _ _ _ h => h) (Reads.kept (fun _ _ _ _ h => h) (Reads.kept (fun _ _ _ _ h => h) hT.out (gr_set _ _ _ _) hne) (gr_set _ _ _ _) hne) (gr_set _ _ _ _) hne) (gr_set _ _ _ _) hne
end Go.Proofs.Ytdommneciojiaaa
