/- Contract of clewref15.all: a source's declarations, in order. -/
import Derived.Test.YtdommneciojiaaaNamesSource
namespace Go.Proofs.Ytdommneciojiaaa
open Go.RowKit Go.PlainAid
set_option linter.unusedVariables false
set_option linter.unusedSimpArgs false

theorem Try.infoEntry : (Try.prog.info? 79).map (fun i => (i.zero, i.size, i.bytes)) = some (some (.agg #[.string ByteArray.empty, .int .i64 0, .int .i64 0, .int .i64 0, .int .i64 0, .int .i64 0]), 6, 56) := by kernel_rfl
def enC (e : EN) : List Value := [.string (mkB e.nm), .int .i64 e.kd, .int .i64 e.part, .int .i64 e.at_, .int .i64 e.num, .int .i64 e.most]
/-- Entries that the call owns. -/
def OwE (w : World) (base : Nat) (v : Value) (L : List EN) : Prop := w.ownsRow base 79 6 v L.length ((L.map enC).flatten)
theorem OwE.nil (w : World) (base : Nat) : OwE w base (.slice none 0 0) [] := World.ownsRow_nil _ _ _ _
theorem OwE.snoc {w : World} {base n : Nat} {v : Value} {L : List EN} {x : EN} (hn : L.length = n) (h : w.ownsRow base 79 6 v (n + 1) ((L.map enC).flatten ++ enC x)) : OwE w base v (L ++ [x]) := by
  subst hn; unfold OwE; simpa using h
theorem ents_take (kd part most from_ : Int) (l : List (List UInt8)) (p : Nat) (h : p < l.length) : (entsF kd part most from_ l 0).take (p + 1) = (entsF kd part most from_ l 0).take p ++ [⟨l[p], kd, part, p, from_ + p, most⟩] := by
  have h' : p < (entsF kd part most from_ l 0).length := by rw [ents_len]; exact h
  rw [List.take_succ_eq_append_getElem h', ents_at kd part most from_ l 0 p h h', Nat.zero_add]
def srcC (f p g o v fn dm : Value) : List Value := [.string ⟨#[]⟩, .string ⟨#[]⟩, .string ⟨#[]⟩, .int .i64 0, .int .i64 0, f, p, g, o, v, nilV, fn, dm]
set_option maxRecDepth 100000 in
set_option maxHeartbeats 16000000 in
theorem refEnts (f p g o v fn dm : Value) (d : DC) (w : World) (hs : SrcIs w f p g o v fn dm d) (hd : d.few 100000) :
    Calls Try.prog 29 #[srcV f p g o v fn dm] w fun e w' => ∃ r, e = .returned r ∧ OwE w' (w.heap.size + 1) r (entsD d) ∧ Below w.heap.size w w' := by
  have HS := Lib.hid hs
  obtain ⟨a1, c1, h1, g1, m1⟩ := hs.fl.len
  obtain ⟨a2, c2, h2, g2, m2⟩ := hs.pr.len
  obtain ⟨a3, c3, h3, g3, m3⟩ := hs.gl.len
  obtain ⟨a4, c4, h4, g4, m4⟩ := hs.ob.len
  obtain ⟨a5, c5, h5, g5, m5⟩ := hs.ve.len
  obtain ⟨a6, c6, h6, g6, m6⟩ := hs.fu.len
  obtain ⟨a7, c7, h7, g7, m7⟩ := hs.da.len
  subst h1 h2 h3 h4 h5 h6 h7
  obtain ⟨q1, q2, q3, q4, q5, q6, q7⟩ := hd
  clear hs
  obtain ⟨i0, hi, hz0, hz1, hz2⟩ := info_parts Try.infoEntry
  obtain ⟨SRC, hSRC⟩ : ∃ SRC : List Value, SRC = srcC (.slice a1 d.fl.length c1) (.slice a2 d.pr.length c2) (.slice a3 d.gl.length c3) (.slice a4 d.ob.length c4) (.slice a5 d.ve.length c5) (.slice a6 d.fu.length c6) (.slice a7 d.da.length c7) := ⟨_, rfl⟩
  have HSRC := Lib.hid hSRC
  clear hSRC
  unfold srcV
  go_enter Try.func29, Try.ntmps29
  go_wp2
  have HB := Lib.hid (bl_a (Below.refl w.heap.size w) (.cells (srcC (.slice a1 d.fl.length c1) (.slice a2 d.pr.length c2) (.slice a3 d.gl.length c3) (.slice a4 d.ob.length c4) (.slice a5 d.ve.length c5) (.slice a6 d.fu.length c6) (.slice a7 d.da.length c7)).toArray 39))
  have HK : Hid (BK (w.alloc (.cells (srcC (.slice a1 d.fl.length c1) (.slice a2 d.pr.length c2) (.slice a3 d.gl.length c3) (.slice a4 d.ob.length c4) (.slice a5 d.ve.length c5) (.slice a6 d.fu.length c6) (.slice a7 d.da.length c7)).toArray 39)) w.heap.size SRC 39) := Lib.hid (by rw [HSRC.out]; exact BK.new w _ _)
  obtain ⟨P0, hP0⟩ : ∃ x : List EN, x = [] := ⟨_, rfl⟩
  have hlP0 : P0.length ≤ 0 := by rw [hP0]; exact Nat.le_refl _
  have HQP0 := Lib.hid hP0
  have HO : Hid (OwE (w.alloc (.cells (srcC (.slice a1 d.fl.length c1) (.slice a2 d.pr.length c2) (.slice a3 d.gl.length c3) (.slice a4 d.ob.length c4) (.slice a5 d.ve.length c5) (.slice a6 d.fu.length c6) (.slice a7 d.da.length c7)).toArray 39)) (w.heap.size + 1) nilV P0) := Lib.hid (by rw [hP0]; exact OwE.nil _ _)
  clear hP0
  unfold srcC at HB HK HO
  generalize w.alloc _ = W0 at HB HK HO ⊢
  go_loopw [3, 4] (fun v i wr => ∃ (p : Nat), i = .int .i64 p ∧ p ≤ d.fl.length ∧ Hid (Below w.heap.size w wr) ∧ Hid (BK wr w.heap.size SRC 39) ∧ Hid (OwE wr (w.heap.size + 1) v (P0 ++ (entsF 1 2 12 4 d.fl 0).take p))) (fun _ i _ => d.fl.length - (intOf i).toNat)
  case atStart => exact ⟨0, rfl, Nat.zero_le _, HB, HK, Lib.hid (by rw [List.take_zero, List.append_nil]; exact HO.out)⟩
  case round =>
    obtain ⟨WP1, hwr⟩ : ∃ x, x = wr := ⟨_, rfl⟩
    subst hwr
    clear HB HK HO
    obtain ⟨p, rfl, hpl, hB, hK, hO⟩ := hrel
    have kc := hK.out.cell 5
    rw [HSRC.out] at kc
    simp only [srcC, List.getElem?_cons_zero, List.getElem?_cons_succ] at kc
    by_cases hlt : p < d.fl.length
    · obtain ⟨n, hn⟩ : ∃ n, n = (P0 ++ (entsF 1 2 12 4 d.fl 0).take p).length := ⟨_, rfl⟩
      obtain ⟨va, vc, hv⟩ := ow_shape hO.out
      rw [← hn] at hv
      subst hv
      have hnl : n ≤ 800000 := by rw [hn, List.length_append, List.length_take, ents_len]; omega
      obtain ⟨b, off, cap, hv, hcap, hblt, hcell⟩ := str_open HS.out.fl (by omega)
      have hac : a1 = some ⟨b, off, none⟩ := by simp at hv; exact hv.1
      subst hac
      have HT : Hid ((entsF 1 2 12 4 d.fl 0).take (p + 1) = (entsF 1 2 12 4 d.fl 0).take p ++ [⟨d.fl[p], 1, 2, p, 4 + p, 12⟩]) := Lib.hid (ents_take 1 2 12 4 d.fl p hlt)
      obtain ⟨hrm, hrc⟩ := hcell p hlt
      generalize d.fl[p] = x at hrc HT
      have e0 := (hB.out.cell (p := ⟨b, off + p, none⟩) hblt).trans hrc
      have HO2 : Hid (WP1.ownsRow (w.heap.size + 1) 79 6 (.slice va n vc) n (((P0 ++ (entsF 1 2 12 4 d.fl 0).take p).map enC).flatten)) := Lib.hid (by have := hO.out; unfold OwE at this; rwa [← hn] at this)
      have HN := Lib.hid hn
      have hb1 : n + 1 ≤ maxLen ∧ (n + 1) * 56 ≤ 140737488355328 := by unfold maxLen; omega
      have hsz : w.heap.size + 1 ≤ WP1.heap.size := hK.out.lt
      clear hrc hcell hv hn hnl kc hO
      have kc := hK.out.cell 5
      rw [HSRC.out] at kc
      simp only [srcC, List.getElem?_cons_zero, List.getElem?_cons_succ] at kc
      go_wp2_with (at_builtin;  refine wpList_append_own _ rfl _ _ 76 rfl (w.heap.size + 1) 79 i0 _ 6 56 Try.underlying76 hi hz0 hz1 hz2 rfl (by decide) (.slice va n vc) n _ rfl (HO2.out.alloc _) ⟨WP1.heap.size, 0, none⟩ 1 1 [.string (mkB x), .int .i64 1, .int .i64 2, .int .i64 p, .int .i64 (p + 4), .int .i64 12] rfl rfl (news_lit WP1 [.string (mkB x), .int .i64 1, .int .i64 2, .int .i64 p, .int .i64 (p + 4), .int .i64 12] _) (one_all rfl) hb1.1 hb1.2 (ow_le hsz _) ?_; intro v5 w5 hown5 hgrow5 _)
      have HB5 := Lib.hid (bl_g (bl_a hB.out _) hgrow5 (fun j hj => by have := ow_lo HO2.out j hj; omega))
      have HK5 := Lib.hid ((hK.out.alloc _).kept hgrow5 (fun j hj => by have := ow_lo HO2.out j hj; omega))
      have HO5 : Hid (OwE w5 (w.heap.size + 1) v5 (P0 ++ (entsF 1 2 12 4 d.fl 0).take (p + 1))) := Lib.hid (by
        rw [HT.out, ← List.append_assoc]
        refine OwE.snoc HN.out.symm ?_
        first | exact hown5 | (rw [show enC ⟨x, 1, 2, p, 4 + p, 12⟩ = [.string (mkB x), .int .i64 1, .int .i64 2, .int .i64 p, .int .i64 (p + 4), .int .i64 12] from by simp [enC, Int.add_comm]]; exact hown5))
      clear hown5 hgrow5
      go_wp2
      go_roundw
      case rel => exact ⟨p + 1, by go_num, by omega, HB5, HK5, HO5⟩
      case measure => simp [intOf]; omega
    · have hpe : p = d.fl.length := by omega
      subst hpe
      rw [List.take_of_length_le (by rw [ents_len]; exact Nat.le_refl _)] at hO
      obtain ⟨P1, hP1⟩ : ∃ x, x = P0 ++ entsF 1 2 12 4 d.fl 0 := ⟨_, rfl⟩
      have hlP1 : P1.length ≤ 100000 := by rw [hP1, List.length_append, ents_len]; omega
      rw [← hP1] at hO
      have HQP1 := Lib.hid hP1
      have HB := hB
      have HK := hK
      have HO := hO
      clear hB hK hO hP1 hpl hlt
      go_wp2
      go_loopw [3, 5] (fun v i wr => ∃ (p : Nat), i = .int .i64 p ∧ p ≤ d.pr.length ∧ Hid (Below w.heap.size w wr) ∧ Hid (BK wr w.heap.size SRC 39) ∧ Hid (OwE wr (w.heap.size + 1) v (P1 ++ (entsF 2 3 16 0 d.pr 0).take p))) (fun _ i _ => d.pr.length - (intOf i).toNat)
      case atStart => exact ⟨0, rfl, Nat.zero_le _, HB, HK, Lib.hid (by rw [List.take_zero, List.append_nil]; exact HO.out)⟩
      case round =>
        obtain ⟨WP2, hwr⟩ : ∃ x, x = wr := ⟨_, rfl⟩
        subst hwr
        clear HB HK HO
        obtain ⟨p, rfl, hpl, hB, hK, hO⟩ := hrel
        have kc := hK.out.cell 6
        rw [HSRC.out] at kc
        simp only [srcC, List.getElem?_cons_zero, List.getElem?_cons_succ] at kc
        by_cases hlt : p < d.pr.length
        · obtain ⟨n, hn⟩ : ∃ n, n = (P1 ++ (entsF 2 3 16 0 d.pr 0).take p).length := ⟨_, rfl⟩
          obtain ⟨va, vc, hv⟩ := ow_shape hO.out
          rw [← hn] at hv
          subst hv
          have hnl : n ≤ 800000 := by rw [hn, List.length_append, List.length_take, ents_len]; omega
          obtain ⟨b, off, cap, hv, hcap, hblt, hcell⟩ := pair_open HS.out.pr (by omega)
          have hac : a2 = some ⟨b, off, none⟩ := by simp at hv; exact hv.1
          subst hac
          have HT : Hid ((entsF 2 3 16 0 d.pr 0).take (p + 1) = (entsF 2 3 16 0 d.pr 0).take p ++ [⟨d.pr[p], 2, 3, p, 0 + p, 16⟩]) := Lib.hid (ents_take 2 3 16 0 d.pr p hlt)
          obtain ⟨hrm, q, hrc'⟩ := hcell p hlt
          have hrc := hrc' 0 (by decide)
          simp only [pairRow, objRow, verbRow, funcRow, List.getElem?_cons_zero, Nat.add_zero] at hrc
          clear hrc'
          generalize d.pr[p] = x at hrc HT
          have e0 := (hB.out.cell (p := ⟨b, off + p * 2, none⟩) hblt).trans hrc
          have HO2 : Hid (WP2.ownsRow (w.heap.size + 1) 79 6 (.slice va n vc) n (((P1 ++ (entsF 2 3 16 0 d.pr 0).take p).map enC).flatten)) := Lib.hid (by have := hO.out; unfold OwE at this; rwa [← hn] at this)
          have HN := Lib.hid hn
          have hb1 : n + 1 ≤ maxLen ∧ (n + 1) * 56 ≤ 140737488355328 := by unfold maxLen; omega
          have hsz : w.heap.size + 1 ≤ WP2.heap.size := hK.out.lt
          clear hrc hcell hv hn hnl kc hO
          have kc := hK.out.cell 6
          rw [HSRC.out] at kc
          simp only [srcC, List.getElem?_cons_zero, List.getElem?_cons_succ] at kc
          go_wp2_with (at_builtin;  refine wpList_append_own _ rfl _ _ 76 rfl (w.heap.size + 1) 79 i0 _ 6 56 Try.underlying76 hi hz0 hz1 hz2 rfl (by decide) (.slice va n vc) n _ rfl (HO2.out.alloc _) ⟨WP2.heap.size, 0, none⟩ 1 1 [.string (mkB x), .int .i64 2, .int .i64 3, .int .i64 p, .int .i64 p, .int .i64 16] rfl rfl (news_lit WP2 [.string (mkB x), .int .i64 2, .int .i64 3, .int .i64 p, .int .i64 p, .int .i64 16] _) (one_all rfl) hb1.1 hb1.2 (ow_le hsz _) ?_; intro v5 w5 hown5 hgrow5 _)
          have HB5 := Lib.hid (bl_g (bl_a hB.out _) hgrow5 (fun j hj => by have := ow_lo HO2.out j hj; omega))
          have HK5 := Lib.hid ((hK.out.alloc _).kept hgrow5 (fun j hj => by have := ow_lo HO2.out j hj; omega))
          have HO5 : Hid (OwE w5 (w.heap.size + 1) v5 (P1 ++ (entsF 2 3 16 0 d.pr 0).take (p + 1))) := Lib.hid (by
            rw [HT.out, ← List.append_assoc]
            refine OwE.snoc HN.out.symm ?_
            first | exact hown5 | (rw [show enC ⟨x, 2, 3, p, 0 + p, 16⟩ = [.string (mkB x), .int .i64 2, .int .i64 3, .int .i64 p, .int .i64 p, .int .i64 16] from by simp [enC, Int.add_comm]]; exact hown5))
          clear hown5 hgrow5
          go_wp2
          go_roundw
          case rel => exact ⟨p + 1, by go_num, by omega, HB5, HK5, HO5⟩
          case measure => simp [intOf]; omega
        · have hpe : p = d.pr.length := by omega
          subst hpe
          rw [List.take_of_length_le (by rw [ents_len]; exact Nat.le_refl _)] at hO
          obtain ⟨P2, hP2⟩ : ∃ x, x = P1 ++ entsF 2 3 16 0 d.pr 0 := ⟨_, rfl⟩
          have hlP2 : P2.length ≤ 200000 := by rw [hP2, List.length_append, ents_len]; omega
          rw [← hP2] at hO
          have HQP2 := Lib.hid hP2
          have HB := hB
          have HK := hK
          have HO := hO
          clear hB hK hO hP2 hpl hlt
          go_wp2
          go_loopw [3, 6] (fun v i wr => ∃ (p : Nat), i = .int .i64 p ∧ p ≤ d.gl.length ∧ Hid (Below w.heap.size w wr) ∧ Hid (BK wr w.heap.size SRC 39) ∧ Hid (OwE wr (w.heap.size + 1) v (P2 ++ (entsF 3 4 64 0 d.gl 0).take p))) (fun _ i _ => d.gl.length - (intOf i).toNat)
          case atStart => exact ⟨0, rfl, Nat.zero_le _, HB, HK, Lib.hid (by rw [List.take_zero, List.append_nil]; exact HO.out)⟩
          case round =>
            obtain ⟨WP3, hwr⟩ : ∃ x, x = wr := ⟨_, rfl⟩
            subst hwr
            clear HB HK HO
            obtain ⟨p, rfl, hpl, hB, hK, hO⟩ := hrel
            have kc := hK.out.cell 7
            rw [HSRC.out] at kc
            simp only [srcC, List.getElem?_cons_zero, List.getElem?_cons_succ] at kc
            by_cases hlt : p < d.gl.length
            · obtain ⟨n, hn⟩ : ∃ n, n = (P2 ++ (entsF 3 4 64 0 d.gl 0).take p).length := ⟨_, rfl⟩
              obtain ⟨va, vc, hv⟩ := ow_shape hO.out
              rw [← hn] at hv
              subst hv
              have hnl : n ≤ 800000 := by rw [hn, List.length_append, List.length_take, ents_len]; omega
              obtain ⟨b, off, cap, hv, hcap, hblt, hcell⟩ := pair_open HS.out.gl (by omega)
              have hac : a3 = some ⟨b, off, none⟩ := by simp at hv; exact hv.1
              subst hac
              have HT : Hid ((entsF 3 4 64 0 d.gl 0).take (p + 1) = (entsF 3 4 64 0 d.gl 0).take p ++ [⟨d.gl[p], 3, 4, p, 0 + p, 64⟩]) := Lib.hid (ents_take 3 4 64 0 d.gl p hlt)
              obtain ⟨hrm, q, hrc'⟩ := hcell p hlt
              have hrc := hrc' 0 (by decide)
              simp only [pairRow, objRow, verbRow, funcRow, List.getElem?_cons_zero, Nat.add_zero] at hrc
              clear hrc'
              generalize d.gl[p] = x at hrc HT
              have e0 := (hB.out.cell (p := ⟨b, off + p * 2, none⟩) hblt).trans hrc
              have HO2 : Hid (WP3.ownsRow (w.heap.size + 1) 79 6 (.slice va n vc) n (((P2 ++ (entsF 3 4 64 0 d.gl 0).take p).map enC).flatten)) := Lib.hid (by have := hO.out; unfold OwE at this; rwa [← hn] at this)
              have HN := Lib.hid hn
              have hb1 : n + 1 ≤ maxLen ∧ (n + 1) * 56 ≤ 140737488355328 := by unfold maxLen; omega
              have hsz : w.heap.size + 1 ≤ WP3.heap.size := hK.out.lt
              clear hrc hcell hv hn hnl kc hO
              have kc := hK.out.cell 7
              rw [HSRC.out] at kc
              simp only [srcC, List.getElem?_cons_zero, List.getElem?_cons_succ] at kc
              go_wp2_with (at_builtin;  refine wpList_append_own _ rfl _ _ 76 rfl (w.heap.size + 1) 79 i0 _ 6 56 Try.underlying76 hi hz0 hz1 hz2 rfl (by decide) (.slice va n vc) n _ rfl (HO2.out.alloc _) ⟨WP3.heap.size, 0, none⟩ 1 1 [.string (mkB x), .int .i64 3, .int .i64 4, .int .i64 p, .int .i64 p, .int .i64 64] rfl rfl (news_lit WP3 [.string (mkB x), .int .i64 3, .int .i64 4, .int .i64 p, .int .i64 p, .int .i64 64] _) (one_all rfl) hb1.1 hb1.2 (ow_le hsz _) ?_; intro v5 w5 hown5 hgrow5 _)
              have HB5 := Lib.hid (bl_g (bl_a hB.out _) hgrow5 (fun j hj => by have := ow_lo HO2.out j hj; omega))
              have HK5 := Lib.hid ((hK.out.alloc _).kept hgrow5 (fun j hj => by have := ow_lo HO2.out j hj; omega))
              have HO5 : Hid (OwE w5 (w.heap.size + 1) v5 (P2 ++ (entsF 3 4 64 0 d.gl 0).take (p + 1))) := Lib.hid (by
                rw [HT.out, ← List.append_assoc]
                refine OwE.snoc HN.out.symm ?_
                first | exact hown5 | (rw [show enC ⟨x, 3, 4, p, 0 + p, 64⟩ = [.string (mkB x), .int .i64 3, .int .i64 4, .int .i64 p, .int .i64 p, .int .i64 64] from by simp [enC, Int.add_comm]]; exact hown5))
              clear hown5 hgrow5
              go_wp2
              go_roundw
              case rel => exact ⟨p + 1, by go_num, by omega, HB5, HK5, HO5⟩
              case measure => simp [intOf]; omega
            · have hpe : p = d.gl.length := by omega
              subst hpe
              rw [List.take_of_length_le (by rw [ents_len]; exact Nat.le_refl _)] at hO
              obtain ⟨P3, hP3⟩ : ∃ x, x = P2 ++ entsF 3 4 64 0 d.gl 0 := ⟨_, rfl⟩
              have hlP3 : P3.length ≤ 300000 := by rw [hP3, List.length_append, ents_len]; omega
              rw [← hP3] at hO
              have HQP3 := Lib.hid hP3
              have HB := hB
              have HK := hK
              have HO := hO
              clear hB hK hO hP3 hpl hlt
              go_wp2
              go_loopw [3, 7] (fun v i wr => ∃ (p : Nat), i = .int .i64 p ∧ p ≤ d.ob.length ∧ Hid (Below w.heap.size w wr) ∧ Hid (BK wr w.heap.size SRC 39) ∧ Hid (OwE wr (w.heap.size + 1) v (P3 ++ (entsF 4 5 126 2 d.ob 0).take p))) (fun _ i _ => d.ob.length - (intOf i).toNat)
              case atStart => exact ⟨0, rfl, Nat.zero_le _, HB, HK, Lib.hid (by rw [List.take_zero, List.append_nil]; exact HO.out)⟩
              case round =>
                obtain ⟨WP4, hwr⟩ : ∃ x, x = wr := ⟨_, rfl⟩
                subst hwr
                clear HB HK HO
                obtain ⟨p, rfl, hpl, hB, hK, hO⟩ := hrel
                have kc := hK.out.cell 8
                rw [HSRC.out] at kc
                simp only [srcC, List.getElem?_cons_zero, List.getElem?_cons_succ] at kc
                by_cases hlt : p < d.ob.length
                · obtain ⟨n, hn⟩ : ∃ n, n = (P3 ++ (entsF 4 5 126 2 d.ob 0).take p).length := ⟨_, rfl⟩
                  obtain ⟨va, vc, hv⟩ := ow_shape hO.out
                  rw [← hn] at hv
                  subst hv
                  have hnl : n ≤ 800000 := by rw [hn, List.length_append, List.length_take, ents_len]; omega
                  obtain ⟨b, off, cap, hv, hcap, hblt, hcell⟩ := obj_open HS.out.ob (by omega)
                  have hac : a4 = some ⟨b, off, none⟩ := by simp at hv; exact hv.1
                  subst hac
                  have HT : Hid ((entsF 4 5 126 2 d.ob 0).take (p + 1) = (entsF 4 5 126 2 d.ob 0).take p ++ [⟨d.ob[p], 4, 5, p, 2 + p, 126⟩]) := Lib.hid (ents_take 4 5 126 2 d.ob p hlt)
                  obtain ⟨hrm, q, hrc'⟩ := hcell p hlt
                  have hrc := hrc' 0 (by decide)
                  simp only [pairRow, objRow, verbRow, funcRow, List.getElem?_cons_zero, Nat.add_zero] at hrc
                  clear hrc'
                  generalize d.ob[p] = x at hrc HT
                  have e0 := (hB.out.cell (p := ⟨b, off + p * 10, none⟩) hblt).trans hrc
                  have HO2 : Hid (WP4.ownsRow (w.heap.size + 1) 79 6 (.slice va n vc) n (((P3 ++ (entsF 4 5 126 2 d.ob 0).take p).map enC).flatten)) := Lib.hid (by have := hO.out; unfold OwE at this; rwa [← hn] at this)
                  have HN := Lib.hid hn
                  have hb1 : n + 1 ≤ maxLen ∧ (n + 1) * 56 ≤ 140737488355328 := by unfold maxLen; omega
                  have hsz : w.heap.size + 1 ≤ WP4.heap.size := hK.out.lt
                  clear hrc hcell hv hn hnl kc hO
                  have kc := hK.out.cell 8
                  rw [HSRC.out] at kc
                  simp only [srcC, List.getElem?_cons_zero, List.getElem?_cons_succ] at kc
                  go_wp2_with (at_builtin;  refine wpList_append_own _ rfl _ _ 76 rfl (w.heap.size + 1) 79 i0 _ 6 56 Try.underlying76 hi hz0 hz1 hz2 rfl (by decide) (.slice va n vc) n _ rfl (HO2.out.alloc _) ⟨WP4.heap.size, 0, none⟩ 1 1 [.string (mkB x), .int .i64 4, .int .i64 5, .int .i64 p, .int .i64 (p + 2), .int .i64 126] rfl rfl (news_lit WP4 [.string (mkB x), .int .i64 4, .int .i64 5, .int .i64 p, .int .i64 (p + 2), .int .i64 126] _) (one_all rfl) hb1.1 hb1.2 (ow_le hsz _) ?_; intro v5 w5 hown5 hgrow5 _)
                  have HB5 := Lib.hid (bl_g (bl_a hB.out _) hgrow5 (fun j hj => by have := ow_lo HO2.out j hj; omega))
                  have HK5 := Lib.hid ((hK.out.alloc _).kept hgrow5 (fun j hj => by have := ow_lo HO2.out j hj; omega))
                  have HO5 : Hid (OwE w5 (w.heap.size + 1) v5 (P3 ++ (entsF 4 5 126 2 d.ob 0).take (p + 1))) := Lib.hid (by
                    rw [HT.out, ← List.append_assoc]
                    refine OwE.snoc HN.out.symm ?_
                    first | exact hown5 | (rw [show enC ⟨x, 4, 5, p, 2 + p, 126⟩ = [.string (mkB x), .int .i64 4, .int .i64 5, .int .i64 p, .int .i64 (p + 2), .int .i64 126] from by simp [enC, Int.add_comm]]; exact hown5))
                  clear hown5 hgrow5
                  go_wp2
                  go_roundw
                  case rel => exact ⟨p + 1, by go_num, by omega, HB5, HK5, HO5⟩
                  case measure => simp [intOf]; omega
                · have hpe : p = d.ob.length := by omega
                  subst hpe
                  rw [List.take_of_length_le (by rw [ents_len]; exact Nat.le_refl _)] at hO
                  obtain ⟨P4, hP4⟩ : ∃ x, x = P3 ++ entsF 4 5 126 2 d.ob 0 := ⟨_, rfl⟩
                  have hlP4 : P4.length ≤ 400000 := by rw [hP4, List.length_append, ents_len]; omega
                  rw [← hP4] at hO
                  have HQP4 := Lib.hid hP4
                  have HB := hB
                  have HK := hK
                  have HO := hO
                  clear hB hK hO hP4 hpl hlt
                  go_wp2
                  go_loopw [3, 8] (fun v i wr => ∃ (p : Nat), i = .int .i64 p ∧ p ≤ d.ve.length ∧ Hid (Below w.heap.size w wr) ∧ Hid (BK wr w.heap.size SRC 39) ∧ Hid (OwE wr (w.heap.size + 1) v (P4 ++ (entsF 5 6 64 0 d.ve 0).take p))) (fun _ i _ => d.ve.length - (intOf i).toNat)
                  case atStart => exact ⟨0, rfl, Nat.zero_le _, HB, HK, Lib.hid (by rw [List.take_zero, List.append_nil]; exact HO.out)⟩
                  case round =>
                    obtain ⟨WP5, hwr⟩ : ∃ x, x = wr := ⟨_, rfl⟩
                    subst hwr
                    clear HB HK HO
                    obtain ⟨p, rfl, hpl, hB, hK, hO⟩ := hrel
                    have kc := hK.out.cell 9
                    rw [HSRC.out] at kc
                    simp only [srcC, List.getElem?_cons_zero, List.getElem?_cons_succ] at kc
                    by_cases hlt : p < d.ve.length
                    · obtain ⟨n, hn⟩ : ∃ n, n = (P4 ++ (entsF 5 6 64 0 d.ve 0).take p).length := ⟨_, rfl⟩
                      obtain ⟨va, vc, hv⟩ := ow_shape hO.out
                      rw [← hn] at hv
                      subst hv
                      have hnl : n ≤ 800000 := by rw [hn, List.length_append, List.length_take, ents_len]; omega
                      obtain ⟨b, off, cap, hv, hcap, hblt, hcell⟩ := verb_open HS.out.ve (by omega)
                      have hac : a5 = some ⟨b, off, none⟩ := by simp at hv; exact hv.1
                      subst hac
                      have HT : Hid ((entsF 5 6 64 0 d.ve 0).take (p + 1) = (entsF 5 6 64 0 d.ve 0).take p ++ [⟨d.ve[p], 5, 6, p, 0 + p, 64⟩]) := Lib.hid (ents_take 5 6 64 0 d.ve p hlt)
                      obtain ⟨hrm, q, hrc'⟩ := hcell p hlt
                      have hrc := hrc' 0 (by decide)
                      simp only [pairRow, objRow, verbRow, funcRow, List.getElem?_cons_zero, Nat.add_zero] at hrc
                      clear hrc'
                      generalize d.ve[p] = x at hrc HT
                      have e0 := (hB.out.cell (p := ⟨b, off + p * 3, none⟩) hblt).trans hrc
                      have HO2 : Hid (WP5.ownsRow (w.heap.size + 1) 79 6 (.slice va n vc) n (((P4 ++ (entsF 5 6 64 0 d.ve 0).take p).map enC).flatten)) := Lib.hid (by have := hO.out; unfold OwE at this; rwa [← hn] at this)
                      have HN := Lib.hid hn
                      have hb1 : n + 1 ≤ maxLen ∧ (n + 1) * 56 ≤ 140737488355328 := by unfold maxLen; omega
                      have hsz : w.heap.size + 1 ≤ WP5.heap.size := hK.out.lt
                      clear hrc hcell hv hn hnl kc hO
                      have kc := hK.out.cell 9
                      rw [HSRC.out] at kc
                      simp only [srcC, List.getElem?_cons_zero, List.getElem?_cons_succ] at kc
                      go_wp2_with (at_builtin;  refine wpList_append_own _ rfl _ _ 76 rfl (w.heap.size + 1) 79 i0 _ 6 56 Try.underlying76 hi hz0 hz1 hz2 rfl (by decide) (.slice va n vc) n _ rfl (HO2.out.alloc _) ⟨WP5.heap.size, 0, none⟩ 1 1 [.string (mkB x), .int .i64 5, .int .i64 6, .int .i64 p, .int .i64 p, .int .i64 64] rfl rfl (news_lit WP5 [.string (mkB x), .int .i64 5, .int .i64 6, .int .i64 p, .int .i64 p, .int .i64 64] _) (one_all rfl) hb1.1 hb1.2 (ow_le hsz _) ?_; intro v5 w5 hown5 hgrow5 _)
                      have HB5 := Lib.hid (bl_g (bl_a hB.out _) hgrow5 (fun j hj => by have := ow_lo HO2.out j hj; omega))
                      have HK5 := Lib.hid ((hK.out.alloc _).kept hgrow5 (fun j hj => by have := ow_lo HO2.out j hj; omega))
                      have HO5 : Hid (OwE w5 (w.heap.size + 1) v5 (P4 ++ (entsF 5 6 64 0 d.ve 0).take (p + 1))) := Lib.hid (by
                        rw [HT.out, ← List.append_assoc]
                        refine OwE.snoc HN.out.symm ?_
                        first | exact hown5 | (rw [show enC ⟨x, 5, 6, p, 0 + p, 64⟩ = [.string (mkB x), .int .i64 5, .int .i64 6, .int .i64 p, .int .i64 p, .int .i64 64] from by simp [enC, Int.add_comm]]; exact hown5))
                      clear hown5 hgrow5
                      go_wp2
                      go_roundw
                      case rel => exact ⟨p + 1, by go_num, by omega, HB5, HK5, HO5⟩
                      case measure => simp [intOf]; omega
                    · have hpe : p = d.ve.length := by omega
                      subst hpe
                      rw [List.take_of_length_le (by rw [ents_len]; exact Nat.le_refl _)] at hO
                      obtain ⟨P5, hP5⟩ : ∃ x, x = P4 ++ entsF 5 6 64 0 d.ve 0 := ⟨_, rfl⟩
                      have hlP5 : P5.length ≤ 500000 := by rw [hP5, List.length_append, ents_len]; omega
                      rw [← hP5] at hO
                      have HQP5 := Lib.hid hP5
                      have HB := hB
                      have HK := hK
                      have HO := hO
                      clear hB hK hO hP5 hpl hlt
                      go_wp2
                      go_loopw [3, 9] (fun v i wr => ∃ (p : Nat), i = .int .i64 p ∧ p ≤ d.fu.length ∧ Hid (Below w.heap.size w wr) ∧ Hid (BK wr w.heap.size SRC 39) ∧ Hid (OwE wr (w.heap.size + 1) v (P5 ++ (entsF 6 8 64 0 d.fu 0).take p))) (fun _ i _ => d.fu.length - (intOf i).toNat)
                      case atStart => exact ⟨0, rfl, Nat.zero_le _, HB, HK, Lib.hid (by rw [List.take_zero, List.append_nil]; exact HO.out)⟩
                      case round =>
                        obtain ⟨WP6, hwr⟩ : ∃ x, x = wr := ⟨_, rfl⟩
                        subst hwr
                        clear HB HK HO
                        obtain ⟨p, rfl, hpl, hB, hK, hO⟩ := hrel
                        have kc := hK.out.cell 11
                        rw [HSRC.out] at kc
                        simp only [srcC, List.getElem?_cons_zero, List.getElem?_cons_succ] at kc
                        by_cases hlt : p < d.fu.length
                        · obtain ⟨n, hn⟩ : ∃ n, n = (P5 ++ (entsF 6 8 64 0 d.fu 0).take p).length := ⟨_, rfl⟩
                          obtain ⟨va, vc, hv⟩ := ow_shape hO.out
                          rw [← hn] at hv
                          subst hv
                          have hnl : n ≤ 800000 := by rw [hn, List.length_append, List.length_take, ents_len]; omega
                          obtain ⟨b, off, cap, hv, hcap, hblt, hcell⟩ := func_open HS.out.fu (by omega)
                          have hac : a6 = some ⟨b, off, none⟩ := by simp at hv; exact hv.1
                          subst hac
                          have HT : Hid ((entsF 6 8 64 0 d.fu 0).take (p + 1) = (entsF 6 8 64 0 d.fu 0).take p ++ [⟨d.fu[p], 6, 8, p, 0 + p, 64⟩]) := Lib.hid (ents_take 6 8 64 0 d.fu p hlt)
                          obtain ⟨hrm, q, hrc'⟩ := hcell p hlt
                          have hrc := hrc' 0 (by decide)
                          simp only [pairRow, objRow, verbRow, funcRow, List.getElem?_cons_zero, Nat.add_zero] at hrc
                          clear hrc'
                          generalize d.fu[p] = x at hrc HT
                          have e0 := (hB.out.cell (p := ⟨b, off + p * 3, none⟩) hblt).trans hrc
                          have HO2 : Hid (WP6.ownsRow (w.heap.size + 1) 79 6 (.slice va n vc) n (((P5 ++ (entsF 6 8 64 0 d.fu 0).take p).map enC).flatten)) := Lib.hid (by have := hO.out; unfold OwE at this; rwa [← hn] at this)
                          have HN := Lib.hid hn
                          have hb1 : n + 1 ≤ maxLen ∧ (n + 1) * 56 ≤ 140737488355328 := by unfold maxLen; omega
                          have hsz : w.heap.size + 1 ≤ WP6.heap.size := hK.out.lt
                          clear hrc hcell hv hn hnl kc hO
                          have kc := hK.out.cell 11
                          rw [HSRC.out] at kc
                          simp only [srcC, List.getElem?_cons_zero, List.getElem?_cons_succ] at kc
                          go_wp2_with (at_builtin;  refine wpList_append_own _ rfl _ _ 76 rfl (w.heap.size + 1) 79 i0 _ 6 56 Try.underlying76 hi hz0 hz1 hz2 rfl (by decide) (.slice va n vc) n _ rfl (HO2.out.alloc _) ⟨WP6.heap.size, 0, none⟩ 1 1 [.string (mkB x), .int .i64 6, .int .i64 8, .int .i64 p, .int .i64 p, .int .i64 64] rfl rfl (news_lit WP6 [.string (mkB x), .int .i64 6, .int .i64 8, .int .i64 p, .int .i64 p, .int .i64 64] _) (one_all rfl) hb1.1 hb1.2 (ow_le hsz _) ?_; intro v5 w5 hown5 hgrow5 _)
                          have HB5 := Lib.hid (bl_g (bl_a hB.out _) hgrow5 (fun j hj => by have := ow_lo HO2.out j hj; omega))
                          have HK5 := Lib.hid ((hK.out.alloc _).kept hgrow5 (fun j hj => by have := ow_lo HO2.out j hj; omega))
                          have HO5 : Hid (OwE w5 (w.heap.size + 1) v5 (P5 ++ (entsF 6 8 64 0 d.fu 0).take (p + 1))) := Lib.hid (by
                            rw [HT.out, ← List.append_assoc]
                            refine OwE.snoc HN.out.symm ?_
                            first | exact hown5 | (rw [show enC ⟨x, 6, 8, p, 0 + p, 64⟩ = [.string (mkB x), .int .i64 6, .int .i64 8, .int .i64 p, .int .i64 p, .int .i64 64] from by simp [enC, Int.add_comm]]; exact hown5))
                          clear hown5 hgrow5
                          go_wp2
                          go_roundw
                          case rel => exact ⟨p + 1, by go_num, by omega, HB5, HK5, HO5⟩
                          case measure => simp [intOf]; omega
                        · have hpe : p = d.fu.length := by omega
                          subst hpe
                          rw [List.take_of_length_le (by rw [ents_len]; exact Nat.le_refl _)] at hO
                          obtain ⟨P6, hP6⟩ : ∃ x, x = P5 ++ entsF 6 8 64 0 d.fu 0 := ⟨_, rfl⟩
                          have hlP6 : P6.length ≤ 600000 := by rw [hP6, List.length_append, ents_len]; omega
                          rw [← hP6] at hO
                          have HQP6 := Lib.hid hP6
                          have HB := hB
                          have HK := hK
                          have HO := hO
                          clear hB hK hO hP6 hpl hlt
                          go_wp2
                          go_loopw [3, 10] (fun v i wr => ∃ (p : Nat), i = .int .i64 p ∧ p ≤ d.da.length ∧ Hid (Below w.heap.size w wr) ∧ Hid (BK wr w.heap.size SRC 39) ∧ Hid (OwE wr (w.heap.size + 1) v (P6 ++ (entsF 7 9 16 0 d.da 0).take p))) (fun _ i _ => d.da.length - (intOf i).toNat)
                          case atStart => exact ⟨0, rfl, Nat.zero_le _, HB, HK, Lib.hid (by rw [List.take_zero, List.append_nil]; exact HO.out)⟩
                          case round =>
                            obtain ⟨WP7, hwr⟩ : ∃ x, x = wr := ⟨_, rfl⟩
                            subst hwr
                            clear HB HK HO
                            obtain ⟨p, rfl, hpl, hB, hK, hO⟩ := hrel
                            have kc := hK.out.cell 12
                            rw [HSRC.out] at kc
                            simp only [srcC, List.getElem?_cons_zero, List.getElem?_cons_succ] at kc
                            by_cases hlt : p < d.da.length
                            · obtain ⟨n, hn⟩ : ∃ n, n = (P6 ++ (entsF 7 9 16 0 d.da 0).take p).length := ⟨_, rfl⟩
                              obtain ⟨va, vc, hv⟩ := ow_shape hO.out
                              rw [← hn] at hv
                              subst hv
                              have hnl : n ≤ 800000 := by rw [hn, List.length_append, List.length_take, ents_len]; omega
                              obtain ⟨b, off, cap, hv, hcap, hblt, hcell⟩ := func_open HS.out.da (by omega)
                              have hac : a7 = some ⟨b, off, none⟩ := by simp at hv; exact hv.1
                              subst hac
                              have HT : Hid ((entsF 7 9 16 0 d.da 0).take (p + 1) = (entsF 7 9 16 0 d.da 0).take p ++ [⟨d.da[p], 7, 9, p, 0 + p, 16⟩]) := Lib.hid (ents_take 7 9 16 0 d.da p hlt)
                              obtain ⟨hrm, q, hrc'⟩ := hcell p hlt
                              have hrc := hrc' 0 (by decide)
                              simp only [pairRow, objRow, verbRow, funcRow, List.getElem?_cons_zero, Nat.add_zero] at hrc
                              clear hrc'
                              generalize d.da[p] = x at hrc HT
                              have e0 := (hB.out.cell (p := ⟨b, off + p * 3, none⟩) hblt).trans hrc
                              have HO2 : Hid (WP7.ownsRow (w.heap.size + 1) 79 6 (.slice va n vc) n (((P6 ++ (entsF 7 9 16 0 d.da 0).take p).map enC).flatten)) := Lib.hid (by have := hO.out; unfold OwE at this; rwa [← hn] at this)
                              have HN := Lib.hid hn
                              have hb1 : n + 1 ≤ maxLen ∧ (n + 1) * 56 ≤ 140737488355328 := by unfold maxLen; omega
                              have hsz : w.heap.size + 1 ≤ WP7.heap.size := hK.out.lt
                              clear hrc hcell hv hn hnl kc hO
                              have kc := hK.out.cell 12
                              rw [HSRC.out] at kc
                              simp only [srcC, List.getElem?_cons_zero, List.getElem?_cons_succ] at kc
                              go_wp2_with (at_builtin;  refine wpList_append_own _ rfl _ _ 76 rfl (w.heap.size + 1) 79 i0 _ 6 56 Try.underlying76 hi hz0 hz1 hz2 rfl (by decide) (.slice va n vc) n _ rfl (HO2.out.alloc _) ⟨WP7.heap.size, 0, none⟩ 1 1 [.string (mkB x), .int .i64 7, .int .i64 9, .int .i64 p, .int .i64 p, .int .i64 16] rfl rfl (news_lit WP7 [.string (mkB x), .int .i64 7, .int .i64 9, .int .i64 p, .int .i64 p, .int .i64 16] _) (one_all rfl) hb1.1 hb1.2 (ow_le hsz _) ?_; intro v5 w5 hown5 hgrow5 _)
                              have HB5 := Lib.hid (bl_g (bl_a hB.out _) hgrow5 (fun j hj => by have := ow_lo HO2.out j hj; omega))
                              have HK5 := Lib.hid ((hK.out.alloc _).kept hgrow5 (fun j hj => by have := ow_lo HO2.out j hj; omega))
                              have HO5 : Hid (OwE w5 (w.heap.size + 1) v5 (P6 ++ (entsF 7 9 16 0 d.da 0).take (p + 1))) := Lib.hid (by
                                rw [HT.out, ← List.append_assoc]
                                refine OwE.snoc HN.out.symm ?_
                                first | exact hown5 | (rw [show enC ⟨x, 7, 9, p, 0 + p, 16⟩ = [.string (mkB x), .int .i64 7, .int .i64 9, .int .i64 p, .int .i64 p, .int .i64 16] from by simp [enC, Int.add_comm]]; exact hown5))
                              clear hown5 hgrow5
                              go_wp2
                              go_roundw
                              case rel => exact ⟨p + 1, by go_num, by omega, HB5, HK5, HO5⟩
                              case measure => simp [intOf]; omega
                            · have hpe : p = d.da.length := by omega
                              subst hpe
                              rw [List.take_of_length_le (by rw [ents_len]; exact Nat.le_refl _)] at hO
                              obtain ⟨P7, hP7⟩ : ∃ x, x = P6 ++ entsF 7 9 16 0 d.da 0 := ⟨_, rfl⟩
                              have hlP7 : P7.length ≤ 700000 := by rw [hP7, List.length_append, ents_len]; omega
                              rw [← hP7] at hO
                              have HQP7 := Lib.hid hP7
                              have HB := hB
                              have HK := hK
                              have HO := hO
                              clear hB hK hO hP7 hpl hlt
                              have HE : Hid (P7 = entsD d) := Lib.hid (by rw [HQP7.out, HQP6.out, HQP5.out, HQP4.out, HQP3.out, HQP2.out, HQP1.out, HQP0.out]; simp [entsD])
                              go_wp2
                              go_ret
                              exact ⟨_, rfl, by rw [← HE.out]; exact HO.out, HB.out⟩
end Go.Proofs.Ytdommneciojiaaa
