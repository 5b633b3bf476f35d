/- Contracts of clewref36.Same, clewref19.after, clewref05.From.; What clewref19.New keeps between two rounds; appends of numbers.; Contract of clewref19.New. -/
import Derived.Test.YtjggklfegcejhaaNounLs
import Derived.Test.YtjggklfegcejhaaFitsC
import Derived.Test.YtjggklfegcejhaaAnyM
import Derived.Test.YtjggklfegcejhaaRef24
import Derived.Deep.Upon
import Derived.Deep.OwnRows
import Derived.Deep.DeepCutAuto
namespace Go.Proofs.Ytjggklfegcejhaa
open Go.RowKit Go.PlainAid
set_option linter.unusedVariables false
set_option linter.unusedSimpArgs false

/-- Two phrases are the same. -/
def sameP (p q : PhC) : Bool := decide (p.us = q.us ∧ p.er = q.er ∧ p.th = q.th)
theorem same_eq {p q : PhC} (h1 : p.us = q.us) (h2 : p.er = q.er) (h3 : p.th = q.th) : sameP p q = true := by unfold sameP; simp [h1, h2, h3]
theorem same_us {p q : PhC} (h1 : p.us ≠ q.us) : sameP p q = false := by unfold sameP; simp [h1]
theorem same_er {p q : PhC} (h1 : p.er ≠ q.er) : sameP p q = false := by unfold sameP; simp [h1]
theorem same_th {p q : PhC} (h1 : p.th ≠ q.th) : sameP p q = false := by unfold sameP; simp [h1]
theorem sameP_self (p : PhC) : sameP p p = true := same_eq rfl rfl rfl
set_option maxRecDepth 100000 in
theorem same36 (p r : PhC) (a1 a2 : Option Addr) (c1 c2 : Nat) (w : World) (h1 : Ints w (.slice a1 p.th.length c1) p.th) (h2 : Ints w (.slice a2 r.th.length c2) r.th) :
    Calls Try.prog 12 #[.agg #[.slice a1 p.th.length c1, .int .i64 p.us, .int .i64 p.er], .agg #[.slice a2 r.th.length c2, .int .i64 r.us, .int .i64 r.er]] w fun e w' => e = .returned (.bool (sameP p r)) ∧ Below w.heap.size w w' := by
  obtain ⟨W0, hW0⟩ : ∃ W0, (w.alloc (.cells #[.slice a1 p.th.length c1, .int .i64 p.us, .int .i64 p.er] 40)).alloc (.cells #[.slice a2 r.th.length c2, .int .i64 r.us, .int .i64 r.er] 40) = W0 := ⟨_, rfl⟩
  have HK1 : Hid (BK W0 w.heap.size [.slice a1 p.th.length c1, .int .i64 p.us, .int .i64 p.er] 40) := Lib.hid (by rw [← hW0]; exact (BK.new w _ _).alloc _)
  have HK2 : Hid (BK W0 (w.heap.size + 1) [.slice a2 r.th.length c2, .int .i64 r.us, .int .i64 r.er] 40) := Lib.hid (by
    rw [← hW0]
    have := BK.new (w.alloc (.cells #[.slice a1 p.th.length c1, .int .i64 p.us, .int .i64 p.er] 40)) [.slice a2 r.th.length c2, .int .i64 r.us, .int .i64 r.er] 40
    rwa [World.size_alloc] at this)
  have HB0 : Hid (Below w.heap.size w W0) := Lib.hid (by rw [← hW0]; exact bl_a (bl_a (Below.refl _ _) _) _)
  have HI1 := Lib.hid (h1.below HB0.out)
  have HI2 := Lib.hid (h2.below HB0.out)
  obtain ⟨R, hR⟩ : ∃ R, sameP p r = R := ⟨_, rfl⟩
  have HR := Lib.hid hR
  rw [hR]
  clear hR h1 h2
  obtain ⟨l1, u1, r1⟩ := p
  obtain ⟨l2, u2, r2⟩ := r
  dsimp only at *
  obtain ⟨n1, hn1⟩ : ∃ n, l1.length = n := ⟨_, rfl⟩
  obtain ⟨n2, hn2⟩ : ∃ n, l2.length = n := ⟨_, rfl⟩
  have hm1 : n1 ≤ maxLen := by obtain ⟨_, _, _, h, _⟩ := HI1.out; omega
  unfold maxLen at hm1
  have HN1 := Lib.hid hn1
  have HN2 := Lib.hid hn2
  rw [hn1] at HK1 HI1 hW0 ⊢
  rw [hn2] at HK2 HI2 hW0 ⊢
  clear hn1 hn2
  have c0 := HK1.out.cell 0
  have c1' := HK1.out.cell 1
  have c2' := HK1.out.cell 2
  have d0 := HK2.out.cell 0
  have d1 := HK2.out.cell 1
  have d2 := HK2.out.cell 2
  simp only [List.getElem?_cons_zero, List.getElem?_cons_succ] at c0 c1' c2' d0 d1 d2
  go_enter Try.func12, Try.ntmps12
  by_cases hu : u1 = u2
  · subst hu
    by_cases hr : r1 = r2
    · subst hr
      by_cases hn : n1 = n2
      · subst hn
        go_wp2_with fail
        clear hW0
        clear c0 c1' c2' d0 d1 d2
        go_loopw [5] (fun iv wr => ∃ i : Nat, iv = .int .i64 i ∧ i ≤ n1 ∧ Hid (∀ j (h1 : j < l1.length) (h2 : j < l2.length), j < i → l1[j] = l2[j]) ∧ Hid (Below W0.heap.size W0 wr)) (fun iv _ => n1 - (intOf iv).toNat)
        case atStart => exact ⟨0, rfl, Nat.zero_le _, Lib.hid (fun j _ _ h => by omega), Lib.hid (Below.refl _ _)⟩
        case round =>
          obtain ⟨i, rfl, hi, HE, HBL⟩ := hrel
          have HK1r := Lib.hid (HK1.out.below HBL.out)
          have HK2r := Lib.hid (HK2.out.below HBL.out)
          have HI1r := Lib.hid (HI1.out.below HBL.out)
          have HI2r := Lib.hid (HI2.out.below HBL.out)
          have HB9 := Lib.hid (bl_then HB0.out HBL.out)
          have c0 := HK1r.out.cell 0
          have d0 := HK2r.out.cell 0
          simp only [List.getElem?_cons_zero, List.getElem?_cons_succ] at c0 d0
          by_cases hlt : i < n1
          · have hi1 : i < l1.length := by rw [HN1.out]; exact hlt
            have hi2 : i < l2.length := by rw [HN2.out]; exact hlt
            obtain ⟨b1, o1, rfl, hb1, hc1⟩ := HI1r.out.at2 (by omega)
            obtain ⟨b2, o2, rfl, hb2, hc2⟩ := HI2r.out.at2 (by omega)
            have g1 := hc1 i hi1
            have g2 := hc2 i hi2
            have HX : Hid (∀ x y, l1[i] = x → l2[i] = y → x ≠ y → R = false) := Lib.hid (fun x y e1 e2 hne => by
              rw [← HR.out]; refine same_th (fun e => hne ?_)
              dsimp only at e; subst e; rw [← e1, ← e2])
            have HY : Hid (∀ x, l1[i] = x → l2[i] = x → ∀ j (h1 : j < l1.length) (h2 : j < l2.length), j < i + 1 → l1[j] = l2[j]) := Lib.hid (fun x e1 e2 j h1 h2 hj => by
              by_cases e : j = i
              · subst e; rw [e1, e2]
              · exact HE.out j h1 h2 (by omega))
            obtain ⟨x, hx⟩ : ∃ x, l1[i] = x := ⟨_, rfl⟩
            obtain ⟨y, hy⟩ : ∃ y, l2[i] = y := ⟨_, rfl⟩
            rw [hx] at g1
            rw [hy] at g2
            have HXY := Lib.hid (HX.out x y hx hy)
            have HYX := Lib.hid (fun (e : x = y) => HY.out x hx (by rw [e]; exact hy))
            clear hc1 hc2 hx hy HX HY
            by_cases hxy : x = y
            · have HE2 := Lib.hid (HYX.out hxy)
              subst hxy
              go_wp2_with fail
              go_quiet (fail)
              go_wp2_with fail
              go_roundw
              case rel => exact ⟨i + 1, by go_num, by omega, HE2, Lib.hid (bl_drewN HBL.out _)⟩
              case measure => simp [intOf]; omega
            · have HRF := Lib.hid (HXY.out hxy)
              have e1 : (x == y) = false := by simp [hxy]
              have e2 : (x != y) = true := by simp [hxy]
              clear hxy
              go_wp2_with fail
              go_quiet (fail)
              go_wp2_with fail
              go_ret
              exact ⟨by rw [HRF.out]; rfl, bl_drewN HB9.out _⟩
          · have HRT : Hid (R = true) := Lib.hid (by
              rw [← HR.out]
              refine same_eq rfl rfl (List.ext_getElem (by rw [HN1.out, HN2.out]) (fun j h1 h2 => HE.out j h1 h2 (by rw [HN1.out] at h1; omega)))
              )
            go_wp2_with fail
            go_ret
            exact ⟨by rw [HRT.out]; rfl, HB9.out⟩
      · have HRF : Hid (R = false) := Lib.hid (by rw [← HR.out]; exact same_th (fun e => hn (by dsimp only at e; rw [← HN1.out, ← HN2.out, e])))
        have e1 : ((n1 : Int) == (n2 : Int)) = false := by simp; omega
        have e2 : ((n1 : Int) != (n2 : Int)) = true := by simp; omega
        go_wp2_with fail
        go_ret
        exact ⟨by rw [HRF.out]; rfl, HB0.out⟩
    · have HRF : Hid (R = false) := Lib.hid (by rw [← HR.out]; exact same_er hr)
      have e1 : (r1 == r2) = false := by simp [hr]
      have e2 : (r1 != r2) = true := by simp [hr]
      go_wp2_with fail
      go_ret
      exact ⟨by rw [HRF.out]; rfl, HB0.out⟩
  · have HRF : Hid (R = false) := Lib.hid (by rw [← HR.out]; exact same_us hu)
    have e1 : ((u1 : Int) == (u2 : Int)) = false := by simp; omega
    have e2 : ((u1 : Int) != (u2 : Int)) = true := by simp; omega
    go_wp2_with fail
    go_ret
    exact ⟨by rw [HRF.out]; rfl, HB0.out⟩
/-- The first thing from i on whose parent is p; 0: none. -/
def afterI (ps : List Int) (p : Int) : Nat → Nat → Int
  | 0, _ => 0
  | f + 1, i => if ps[i]? = some p then (i : Int) else afterI ps p f (i + 1)
set_option maxRecDepth 100000 in
theorem refAfter (x : TAd) (t : TbC) (i : Nat) (p : Int) (w : World) (ht : TabIs w x t) (hi : i ≤ t.th.length) :
    Calls Try.prog 18 #[tabV x t, .int .i64 i, .int .i64 p] w fun e w' => e = .returned (.int .i64 (afterI (t.th.map (·.pa)) p (t.th.length - i) i)) ∧ Below w.heap.size w w' := by
  have HB0 := Lib.hid (bl_tab w x t)
  have HK0 : Hid (BK (tabW w x t) w.heap.size (tabC x t) 28) := Lib.hid (BK.new w (tabC x t) 28)
  obtain ⟨W0, hW0⟩ : ∃ W0, tabW w x t = W0 := ⟨_, rfl⟩
  rw [hW0] at HB0 HK0
  unfold tabW tabC at hW0
  unfold tabV tabC
  have hm := reads_few ht.th
  unfold maxLen at hm
  obtain ⟨R, hR⟩ : ∃ R, afterI (t.th.map (·.pa)) p (t.th.length - i) i = R := ⟨_, rfl⟩
  have HR := Lib.hid hR
  rw [hR]
  have HTH : Hid (∀ j (h : j < t.th.length), ∃ b off, x.a8 = some ⟨b, off, none⟩ ∧ b < W0.heap.size ∧ W0.cell? ⟨b, off + j * 9 + 2, none⟩ = some (.int .i64 (t.th[j]).pa)) := Lib.hid (fun j h => by
    obtain ⟨b, off, cap, hv, hcap, hblt, hcell⟩ := th_open ht.th (by omega)
    obtain ⟨r1, r2, r3, r4, hth, hrow⟩ := hcell j h
    refine ⟨b, off, by simp at hv; exact hv.1, Nat.lt_of_lt_of_le hblt HB0.out.size, ?_⟩
    rw [HB0.out.cell (p := ⟨b, off + j * 9 + 2, none⟩) hblt, hrow 2 (by decide)]
    rfl)
  obtain ⟨n, hn⟩ : ∃ n, t.th.length = n := ⟨_, rfl⟩
  have HN := Lib.hid hn
  clear hR ht
  rw [hn] at hi hm
  have kt0 := HK0.out.cell 0
  have kt1 := HK0.out.cell 1
  have kt2 := HK0.out.cell 2
  have kt3 := HK0.out.cell 3
  have kt4 := HK0.out.cell 4
  have kt5 := HK0.out.cell 5
  have kt6 := HK0.out.cell 6
  have kt7 := HK0.out.cell 7
  have kt8 := HK0.out.cell 8
  have kt9 := HK0.out.cell 9
  have kt10 := HK0.out.cell 10
  have kt11 := HK0.out.cell 11
  have kt12 := HK0.out.cell 12
  have kt13 := HK0.out.cell 13
  have kt14 := HK0.out.cell 14
  simp only [tabC, List.getElem?_cons_zero, List.getElem?_cons_succ] at kt0 kt1 kt2 kt3 kt4 kt5 kt6 kt7 kt8 kt9 kt10 kt11 kt12 kt13 kt14
  rw [hn] at kt8
  clear hn
  go_enter Try.func18, Try.ntmps18
  go_wp2_with fail
  clear hW0
  go_loop [7] (fun iv => ∃ j : Nat, iv = .int .i64 j ∧ j ≤ n ∧ Hid (afterI (t.th.map (·.pa)) p (n - j) j = R)) (fun iv => n - (intOf iv).toNat)
  case atStart => exact ⟨i, rfl, hi, Lib.hid (by rw [← HN.out]; exact HR.out)⟩
  case round =>
    obtain ⟨j, rfl, hj, HJ⟩ := hrel
    by_cases hlt : j < n
    · have hjt : j < t.th.length := by rw [HN.out]; exact hlt
      obtain ⟨b, off, hx8, hbl, hcell⟩ := HTH.out j hjt
      have HSt : Hid (R = if (t.th[j]).pa = p then (j : Int) else afterI (t.th.map (·.pa)) p (n - (j + 1)) (j + 1)) := Lib.hid (by
        have h := HJ.out
        rw [show n - j = (n - (j + 1)) + 1 by omega, afterI, List.getElem?_map, List.getElem?_eq_getElem hjt] at h
        simp only [Option.map_some, Option.some.injEq] at h
        exact h.symm)
      rw [hx8] at kt8
      generalize (t.th[j]).pa = y at *
      clear hx8
      by_cases hy : y = p
      · subst hy
        have HRJ : Hid (R = (j : Int)) := Lib.hid (by rw [HSt.out, if_pos rfl])
        go_wp2_with fail
        go_ret
        exact ⟨by rw [HRJ.out]; rfl, HB0.out⟩
      · have HRJ : Hid (afterI (t.th.map (·.pa)) p (n - (j + 1)) (j + 1) = R) := Lib.hid (by rw [HSt.out, if_neg hy])
        have e1 : (y == p) = false := by simp [hy]
        go_wp2_with fail
        go_round
        case rel => exact ⟨j + 1, by go_num, by omega, HRJ⟩
        case measure => simp [intOf]; omega
    · have HRJ : Hid (R = 0) := Lib.hid (by rw [← HJ.out, show n - j = 0 by omega]; rfl)
      go_wp2_with fail
      go_ret
      exact ⟨by rw [HRJ.out]; rfl, HB0.out⟩
end Go.Proofs.Ytjggklfegcejhaa
namespace Go.Proofs.Ytjggklfegcejhaa
open Go.RowKit Go.PlainAid Go.Deep
set_option linter.unusedVariables false
set_option linter.unusedSimpArgs false

theorem refSeed (n : Int) (w : World) : Calls Try.prog 17 #[.int .i64 n] w fun e w' => ∃ s, e = .returned (.int .u64 s) ∧ w = w' := by
  go_enter Try.func17, Try.ntmps17
  go_wp2
  all_goals
    go_ret
    try exact ⟨_, rfl, rfl⟩
theorem ints_src {w : World} {b o n c : Nat} {L : List Int} (h : Ints w (.slice (some ⟨b, o, none⟩) n c) L) : ∀ j u, (L.map (Value.int .i64))[j]? = some u → w.cell? ((⟨b, o, none⟩ : Addr).add j) = some u := fun j u hj => by
  have hjl : j < L.length := by have := (List.getElem?_eq_some_iff.1 hj).1; simpa using this
  obtain ⟨b', o', e, hb, hc⟩ := h.at2 (by omega)
  simp only [Option.some.injEq, Addr.mk.injEq, and_true] at e
  obtain ⟨rfl, rfl⟩ := e
  have h1 := hc j hjl
  rw [List.getElem?_map, List.getElem?_eq_getElem hjl] at hj
  simp only [Option.map_some, Option.some.injEq] at hj
  rw [← hj, ← h1]
  congr 1
  simp [Addr.add]
  try (intro h; omega)
/-- Numbers are appended to a row of one's own: as a run. -/
theorem app_ints (w : World) (base : Nat) (v : Value) (n : Nat) (xs : List Value) (hown : w.ownsRow base 3 1 v n xs) (sa : Option Addr) (sc : Nat) (L : List Int) (hs : Ints w (.slice sa L.length sc) L)
    (h63 : n + L.length ≤ 1000000) (hbase : base ≤ w.heap.size) (ty : TypeId) :
    ∃ v' w', (Builtin.append_ #[23, 23] ty #[v, .slice sa L.length sc]).run Try.prog w = .ok v' w' ∧ w'.ownsRow base 3 1 v' (n + L.length) (xs ++ L.map (.int .i64)) ∧ w.grownBy w' v.ownBlock ∧ (v'.ownBlock = v.ownBlock ∨ v'.ownBlock = some w.heap.size) := by
  obtain ⟨i0, hi, hi1, hi2, hi3⟩ := info_parts info_intR
  have hoc : ∀ u ∈ L.map (Value.int .i64), u.oneCell' = true := by intro u hu; obtain ⟨z, _, rfl⟩ := List.mem_map.1 hu; rfl
  by_cases h0 : L = []
  · subst h0
    obtain ⟨a, c, rfl⟩ := ow_shape hown
    have hle : n ≤ c := by
      rcases hown.2 with ⟨h1, h2⟩ | ⟨g, cap, cur, h1, _, _, h4, _⟩
      · omega
      · simp only [Value.slice.injEq] at h1; omega
    refine ⟨_, w, run_append_nothing w 23 23 ty 3 i0 Try.underlying23 hi a n c hle _ ?_, by simpa using hown, gr_refl _ _, .inl rfl⟩
    cases sa with
    | none => exact Src.ofNil w Try.underlying23 sc
    | some ad => exact Src.ofSlice w Try.underlying23 ad 0 sc [] (by simp) (fun j u h => by simp at h) (fun u h => by simp at h)
  · have hp : 0 < L.length := by cases L with | nil => exact absurd rfl h0 | cons a l => simp
    obtain ⟨b, o, rfl, hb, hc⟩ := hs.at2 hp
    obtain ⟨v', w', hr, h2, h3, _, h5⟩ := run_append_own_at (P := Try.prog) w base 23 ty 3 i0 (.int .i64 0) 1 8 Try.underlying23 hi hi1 hi2 hi3 rfl (by decide) v n xs hown ⟨b, o, none⟩ L.length sc (L.map (.int .i64)) (by simp) (ints_src hs) hoc (by unfold maxLen; omega) (by omega) hbase
    exact ⟨v', w', hr, h2, h3, h5⟩
/-- Numbers are appended to an empty literal. -/
theorem app_lit (w : World) (base g : Nat) (hown : w.ownsRow base 3 1 (.slice (some ⟨g, 0, none⟩) 0 0) 0 []) (sa : Option Addr) (sc : Nat) (L : List Int) (hs : Ints w (.slice sa L.length sc) L)
    (h63 : L.length ≤ 1000000) (hbase : base ≤ w.heap.size) (ty : TypeId) :
    ∃ v' w', (Builtin.append_ #[23, 23] ty #[.slice (some ⟨g, 0, none⟩) 0 0, .slice sa L.length sc]).run Try.prog w = .ok v' w' ∧ (∃ a c, v' = .slice a L.length c) ∧ w'.ownsRow base 3 1 v' L.length (L.map (.int .i64)) ∧ Below w.heap.size w w' := by
  obtain ⟨v', w', hr, h2, h3, h4⟩ := app_ints w base _ 0 [] hown sa sc L hs (by omega) hbase ty
  rw [Nat.zero_add, List.nil_append] at h2
  refine ⟨v', w', hr, ow_shape h2, h2, ?_⟩
  obtain ⟨i0, hi, hi1, hi2, hi3⟩ := info_parts info_intR
  by_cases h0 : L = []
  · subst h0
    have hx : Src Try.prog i0.size 23 (.slice sa 0 sc) 0 [] w := by
      cases sa with
      | none => exact Src.ofNil w Try.underlying23 sc
      | some ad => exact Src.ofSlice w Try.underlying23 ad 0 sc [] (by simp) (fun j u h => by simp at h) (fun u h => by simp at h)
    have hr2 := run_append_nothing w 23 23 ty 3 i0 Try.underlying23 hi (some ⟨g, 0, none⟩) 0 0 (Nat.le_refl _) _ hx
    rw [List.length_nil, hr2] at hr
    simp only [Result.ok.injEq] at hr
    rw [← hr.2]; exact Below.refl _ _
  · have hp : 0 < L.length := by cases L with | nil => exact absurd rfl h0 | cons a l => simp
    obtain ⟨b, o, rfl, hb, hc⟩ := hs.at2 hp
    have hoc : ∀ u ∈ L.map (Value.int .i64), u.oneCell' = true := by intro u hu; obtain ⟨z, _, rfl⟩ := List.mem_map.1 hu; rfl
    have hx : Src Try.prog i0.size 23 (.slice (some ⟨b, o, none⟩) L.length sc) L.length (L.map (.int .i64)) w := Src.ofSlice w Try.underlying23 ⟨b, o, none⟩ L.length sc _ (by rw [hi2]; simp) (ints_src hs) hoc
    have hr2 := run_append_grow_src w 23 23 ty 3 i0 (.int .i64 0) Try.underlying23 hi hi1 (some ⟨g, 0, none⟩) 0 0 [] (run_firstCells_some w.drew i0.size 0 ⟨g, 0, none⟩ 0 0 [] (by simp) (fun j u h => by simp at h)) _ L.length _ hx (by omega) (by omega) (by rw [hi3]; exact growslice_fits (by omega) (by omega))
    rw [hr2] at hr
    simp only [Result.ok.injEq] at hr
    rw [← hr.2]; exact (Below.refl _ _).drew.alloc (Nat.le_refl _) _
theorem run_app {P : Program} {o : Oper} {a : Act} {w w' : World} {v' v sv : Value} (s x : Operand) (t : TypeId) (ho : o.op = .call { callee := .builtin .append, args := #[s, x], argTypes := #[t, t] }) (hs : a.eval s = v) (hx : a.eval x = sv)
    (hr : (Builtin.append_ #[t, t] o.type #[v, sv]).run P w = .ok v' w') : (execOp a.eval o).run P w = .ok (.value v') w' := by
  unfold execOp
  simp only [ho, resolve, invoke, builtin, Sem.run_bind, Sem.run_pure, Result.andThen_ok, List.map_toArray, List.map_cons, List.map_nil, hs, hx, hr]
theorem flat_ones : ∀ (L : List Int), (L.map fun x => [Value.int .i64 x]).flatten = L.map (.int .i64)
  | [] => rfl
  | a :: l => by rw [List.map_cons, List.flatten_cons, flat_ones l]; rfl
/-- A row of one's own reads as its numbers. -/
theorem reads_own {w : World} {base : Nat} {v : Value} {L : List Int} (h : w.ownsRow base 3 1 v L.length (L.map (.int .i64))) (hw : ∀ x ∈ L, I64 x) (hm : L.length ≤ reachBytes) (hm2 : L.length ≤ maxLen) : Reads Cd.is w v L := by
  have hS : SLN 1 w v (L.map fun x => [Value.int .i64 x]) := by
    refine SLN.own (n := L.length) (e := 3) (base := base) ?_ (by simp) (fun r hr => by obtain ⟨x, _, rfl⟩ := List.mem_map.1 hr; rfl) hm2
    rw [flat_ones]; exact h
  obtain ⟨a, c, rfl⟩ := ow_shape h
  have hle : L.length ≤ c := by
    rcases h.2 with ⟨h1, h2⟩ | ⟨g, cap, cur, h1, _, _, h4, _⟩
    · omega
    · simp only [Value.slice.injEq] at h1; omega
  refine ⟨⟨_, _, rfl, ⟨hS, a, c, by simp, by simpa using hle⟩, by simp, fun i h1 h2 => ?_⟩, hm⟩
  simp only [List.getElem_map]
  exact ⟨rfl, hw _ (List.getElem_mem h2)⟩
/-! ### The new world's lists -/
def psT (t : TbC) : List Int := t.th.map (·.pa)
def chAt (ps : List Int) (x : Nat) : Int := if x = 0 then 0 else afterI ps x (ps.length - 1) 1
def nxAt (ps : List Int) (x : Nat) : Int := if ps.getD x 0 = 0 then 0 else afterI ps (ps.getD x 0) (ps.length - (x + 1)) (x + 1)
def dAt (t : TbC) (i : Nat) : WdC := ⟨t.gl, (psT t).take i, (List.range i).map (chAt (psT t)), (List.range i).map (nxAt (psT t)), (t.th.map (·.fl)).take i, (t.th.take i).flatMap (·.pr), List.replicate t.da.length 0⟩
def newD (t : TbC) : WdC := dAt t t.th.length
/-- The five rows of a world that grow: their values, lengths, lists. -/
def rowV (q : Wv) : Nat → Value
  | 0 => .slice q.a1 q.l1 q.c1
  | 1 => .slice q.a2 q.l2 q.c2
  | 2 => .slice q.a3 q.l3 q.c3
  | 3 => .slice q.a4 q.l4 q.c4
  | _ => .slice q.a5 q.l5 q.c5
def rowN (q : Wv) : Nat → Nat
  | 0 => q.l1
  | 1 => q.l2
  | 2 => q.l3
  | 3 => q.l4
  | _ => q.l5
def rowL (d : WdC) : Nat → List Int
  | 0 => d.pa
  | 1 => d.ch
  | 2 => d.nx
  | 3 => d.fl
  | _ => d.pr
def putR (q : Wv) (k : Nat) (a : Option Addr) (l c : Nat) : Wv := match k with
  | 0 => { q with a1 := a, l1 := l, c1 := c }
  | 1 => { q with a2 := a, l2 := l, c2 := c }
  | 2 => { q with a3 := a, l3 := l, c3 := c }
  | 3 => { q with a4 := a, l4 := l, c4 := c }
  | _ => { q with a5 := a, l5 := l, c5 := c }
def putL (d : WdC) (k : Nat) (l : List Int) : WdC := match k with
  | 0 => { d with pa := l }
  | 1 => { d with ch := l }
  | 2 => { d with nx := l }
  | 3 => { d with fl := l }
  | _ => { d with pr := l }
theorem rowV_put (q : Wv) (a : Option Addr) (l c : Nat) : ∀ (j k : Nat), j < 5 → k < 5 → rowV (putR q k a l c) j = if j = k then .slice a l c else rowV q j
  | 0, 0, _, _ | 0, 1, _, _ | 0, 2, _, _ | 0, 3, _, _ | 0, 4, _, _ | 1, 0, _, _ | 1, 1, _, _ | 1, 2, _, _ | 1, 3, _, _ | 1, 4, _, _ | 2, 0, _, _ | 2, 1, _, _ | 2, 2, _, _ | 2, 3, _, _ | 2, 4, _, _ | 3, 0, _, _ | 3, 1, _, _ | 3, 2, _, _ | 3, 3, _, _ | 3, 4, _, _ | 4, 0, _, _ | 4, 1, _, _ | 4, 2, _, _ | 4, 3, _, _ | 4, 4, _, _ => rfl
  | n + 5, _, h, _ => by omega
  | 0, n + 5, _, h | 1, n + 5, _, h | 2, n + 5, _, h | 3, n + 5, _, h | 4, n + 5, _, h => by omega
theorem rowN_put (q : Wv) (a : Option Addr) (l c : Nat) : ∀ (j k : Nat), j < 5 → k < 5 → rowN (putR q k a l c) j = if j = k then l else rowN q j
  | 0, 0, _, _ | 0, 1, _, _ | 0, 2, _, _ | 0, 3, _, _ | 0, 4, _, _ | 1, 0, _, _ | 1, 1, _, _ | 1, 2, _, _ | 1, 3, _, _ | 1, 4, _, _ | 2, 0, _, _ | 2, 1, _, _ | 2, 2, _, _ | 2, 3, _, _ | 2, 4, _, _ | 3, 0, _, _ | 3, 1, _, _ | 3, 2, _, _ | 3, 3, _, _ | 3, 4, _, _ | 4, 0, _, _ | 4, 1, _, _ | 4, 2, _, _ | 4, 3, _, _ | 4, 4, _, _ => rfl
  | n + 5, _, h, _ => by omega
  | 0, n + 5, _, h | 1, n + 5, _, h | 2, n + 5, _, h | 3, n + 5, _, h | 4, n + 5, _, h => by omega
theorem rowL_put (d : WdC) (l : List Int) : ∀ (j k : Nat), j < 5 → k < 5 → rowL (putL d k l) j = if j = k then l else rowL d j
  | 0, 0, _, _ | 0, 1, _, _ | 0, 2, _, _ | 0, 3, _, _ | 0, 4, _, _ | 1, 0, _, _ | 1, 1, _, _ | 1, 2, _, _ | 1, 3, _, _ | 1, 4, _, _ | 2, 0, _, _ | 2, 1, _, _ | 2, 2, _, _ | 2, 3, _, _ | 2, 4, _, _ | 3, 0, _, _ | 3, 1, _, _ | 3, 2, _, _ | 3, 3, _, _ | 3, 4, _, _ | 4, 0, _, _ | 4, 1, _, _ | 4, 2, _, _ | 4, 3, _, _ | 4, 4, _, _ => rfl
  | n + 5, _, h, _ => by omega
  | 0, n + 5, _, h | 1, n + 5, _, h | 2, n + 5, _, h | 3, n + 5, _, h | 4, n + 5, _, h => by omega
theorem worldC_put (q : Wv) (a : Option Addr) (l c : Nat) : ∀ (k : Nat), k < 5 → (worldC q).set (k + 1) (.slice a l c) = worldC (putR q k a l c)
  | 0, _ | 1, _ | 2, _ | 3, _ | 4, _ => rfl
  | n + 5, h => by omega
def zeroW : List Value := [.slice none 0 0, .slice none 0 0, .slice none 0 0, .slice none 0 0, .slice none 0 0, .slice none 0 0, .slice none 0 0, .int .u64 0, .int .i64 0, .int .i64 0, .int .i64 0, .int .i64 0, .int .i64 0]
/-- A list that came to be before, away from the block B. -/
structure OldL (W2 : World) (s B : Nat) (a : Option Addr) (l c : Nat) (L : List Int) : Prop where
  ln : l = L.length
  rd : Reads Cd.is W2 (.slice a l c) L
  far : ∀ b o, a = some ⟨b, o, none⟩ → 0 < L.length → b ≠ B ∧ s + 2 ≤ b
/-- What lies between two rounds. -/
structure NSt (x : TAd) (t : TbC) (w W2 : World) (B : Nat) (wr : World) (q : Wv) (d : WdC) : Prop where
  bt : BK wr w.heap.size (tabC x t) 28
  br : BK wr (w.heap.size + 1) zeroW 33
  bw : BK wr B (worldC q) 33
  hB : w.heap.size + 2 ≤ B
  hBF : B < W2.heap.size
  hW : W2.heap.size ≤ wr.heap.size
  own : ∀ k, k < 5 → wr.ownsRow W2.heap.size 3 1 (rowV q k) (rowN q k) ((rowL d k).map (.int .i64))
  dis : ∀ j k, j < 5 → k < 5 → j ≠ k → ∀ b, (rowV q j).ownBlock = some b → (rowV q k).ownBlock ≠ some b
  bl : Below w.heap.size w wr
  bn : But W2.heap.size [B] W2 wr
  gl : OldL W2 w.heap.size B q.a0 q.l0 q.c0 d.gl
  ti : OldL W2 w.heap.size B q.a6 q.l6 q.c6 d.ti
theorem putR_a0 (q : Wv) (k : Nat) (a : Option Addr) (l c : Nat) : (putR q k a l c).a0 = q.a0 ∧ (putR q k a l c).l0 = q.l0 ∧ (putR q k a l c).c0 = q.c0 ∧ (putR q k a l c).a6 = q.a6 ∧ (putR q k a l c).l6 = q.l6 ∧ (putR q k a l c).c6 = q.c6 := by
  unfold putR; split <;> exact ⟨rfl, rfl, rfl, rfl, rfl, rfl⟩
theorem putL_gl (d : WdC) (k : Nat) (l : List Int) : (putL d k l).gl = d.gl ∧ (putL d k l).ti = d.ti := by
  unfold putL; split <;> exact ⟨rfl, rfl⟩
theorem NSt.below {x : TAd} {t : TbC} {w W2 : World} {B : Nat} {wr w' : World} {q : Wv} {d : WdC} (h : NSt x t w W2 B wr q d) (hb : Below wr.heap.size wr w') : NSt x t w W2 B w' q d :=
  ⟨h.bt.below hb, h.br.below hb, h.bw.below hb, h.hB, h.hBF, Nat.le_trans h.hW hb.size, fun k hk => ow_below (h.own k hk) hb, h.dis, bl_then h.bl hb, h.bn.below (hb.mono h.hW), h.gl, h.ti⟩
/-- A row is kept while another one grows. -/
theorem NSt.mid {x : TAd} {t : TbC} {w W2 : World} {B : Nat} {wr w3 : World} {q : Wv} {d : WdC} (h : NSt x t w W2 B wr q d) {k : Nat} (hk : k < 5) (hg : wr.grownBy w3 (rowV q k).ownBlock) :
    BK w3 w.heap.size (tabC x t) 28 ∧ BK w3 (w.heap.size + 1) zeroW 33 ∧ BK w3 B (worldC q) 33 := by
  have hlo : ∀ j, (rowV q k).ownBlock = some j → W2.heap.size ≤ j := fun j hj => ow_lo (h.own k hk) j hj
  have h1 := h.hB
  have h2 := h.hBF
  exact ⟨h.bt.kept hg (fun j hj => by have := hlo j hj; omega), h.br.kept hg (fun j hj => by have := hlo j hj; omega), h.bw.kept hg (fun j hj => by have := hlo j hj; omega)⟩
theorem NSt.put {x : TAd} {t : TbC} {w W2 : World} {B : Nat} {wr w3 : World} {q : Wv} {d : WdC} (h : NSt x t w W2 B wr q d) {k : Nat} (hk : k < 5) (hg : wr.grownBy w3 (rowV q k).ownBlock) {a : Option Addr} {m c : Nat} {L : List Int}
    (hown : w3.ownsRow W2.heap.size 3 1 (.slice a m c) m (L.map (.int .i64))) (hl : (Value.slice a m c).ownBlock = (rowV q k).ownBlock ∨ ∀ b, (Value.slice a m c).ownBlock = some b → wr.heap.size ≤ b) :
    NSt x t w W2 B (w3.setCell ⟨B, k + 1, none⟩ (.slice a m c)) (putR q k a m c) (putL d k L) := by
  have hlo : ∀ j, (rowV q k).ownBlock = some j → W2.heap.size ≤ j := fun j hj => ow_lo (h.own k hk) j hj
  have h1 := h.hB
  have h2 := h.hBF
  have h3 := h.hW
  obtain ⟨m1, m2, m3⟩ := h.mid hk hg
  obtain ⟨e1, e2, e3, e4, e5, e6⟩ := putR_a0 q k a m c
  obtain ⟨e7, e8⟩ := putL_gl d k L
  have hbg : Below W2.heap.size wr w3 := (Below.refl W2.heap.size wr).grown hg h3 hlo
  have hne : ∀ j, j < 5 → j ≠ k → ∀ b, (rowV q j).ownBlock = some b → (Value.slice a m c).ownBlock ≠ some b := fun j hj hjk b hb he => by
    rcases hl with h' | h'
    · exact h.dis j k hj hk hjk b hb (by rw [← h']; exact he)
    · have := h' b he; have := ((h.own j hj).lt b hb).2; omega
  refine ⟨m1.setO (by omega) _ _, m2.setO (by omega) _ _, ?_, h1, h2, ?_, fun j hj => ?_, fun i j hi hj hij b hb => ?_, bl_s (h.bl.trans (hbg.mono (by omega))) _ _ (by omega), (h.bn.below hbg).set (List.mem_singleton.2 rfl) _ _, ?_, ?_⟩
  · have := m3.set (k + 1) (.slice a m c)
    rwa [worldC_put q a m c k hk] at this
  · have := hbg.size; simp only [World.setCell, Array.size_modify]; omega
  · rw [rowV_put q a m c j k hj hk, rowN_put q a m c j k hj hk, rowL_put d L j k hj hk]
    by_cases e : j = k
    · simp only [if_pos e]
      exact hown.kept (gr_set w3 B (k + 1) (.slice a m c)) (.inr (fun e => by have := ow_lo hown _ e; omega))
    · simp only [if_neg e]
      have ho := h.own j hj
      have hk3 := ho.kept hg (by
        cases hb : (rowV q j).ownBlock with
        | none => exact .inl rfl
        | some b => exact .inr (fun e' => h.dis j k hj hk e b hb e'.symm))
      exact hk3.kept (gr_set w3 B (k + 1) (.slice a m c)) (.inr (fun e' => by have := ow_lo ho _ e'; omega))
  · rw [rowV_put q a m c i k hi hk] at hb
    rw [rowV_put q a m c j k hj hk]
    by_cases e : i = k
    · rw [if_pos e] at hb
      have e2 : j ≠ k := fun e3 => hij (by rw [e, e3])
      rw [if_neg e2]
      exact fun h9 => hne j hj e2 b h9 hb
    · rw [if_neg e] at hb
      by_cases e2 : j = k
      · rw [if_pos e2]; exact hne i hi e b hb
      · rw [if_neg e2]; exact h.dis i j hi hj hij b hb
  · rw [e1, e2, e3, e7]; exact h.gl
  · rw [e4, e5, e6, e8]; exact h.ti
theorem reads_but {w w' : World} {a : Option Addr} {l c : Nat} {L : List Int} {S : List Nat} (h : Reads Cd.is w (.slice a l c) L) (hb : But w.heap.size S w w') (hs : ∀ b o, a = some ⟨b, o, none⟩ → 0 < L.length → b ∉ S) : Reads Cd.is w' (.slice a l c) L := by
  obtain ⟨⟨v, rows, e, ⟨⟨h1, h2, h3⟩, h4⟩, h5, h6⟩, h7⟩ := h
  obtain rfl : Value.slice a l c = v := by simpa using e
  refine ⟨⟨_, rows, rfl, ⟨⟨h1, h2, ?_⟩, h4⟩, h5, h6⟩, h7⟩
  rcases h3 with h3 | ⟨b, off, c', he, hlt, hc⟩
  · exact .inl h3
  · refine .inr ⟨b, off, c', he, Nat.lt_of_lt_of_le hlt hb.size, fun i j hi hj => ?_⟩
    simp only [Value.slice.injEq] at he
    exact (hb.cell hlt (hs b off he.1 (by omega))).trans (hc i j hi hj)
theorem afterI_in (ps : List Int) (p : Int) : ∀ f i, 0 ≤ afterI ps p f i ∧ afterI ps p f i ≤ (f + i : Nat)
  | 0, i => ⟨Int.le_refl _, by show (0 : Int) ≤ _; omega⟩
  | f + 1, i => by
    unfold afterI
    split
    · exact ⟨by omega, by omega⟩
    · have := afterI_in ps p f (i + 1)
      exact ⟨this.1, by have := this.2; omega⟩
theorem i64_small {n : Int} (h0 : 0 ≤ n) (h1 : n ≤ 1000000) : I64 n := by
  show (decide (IntKind.i64.min ≤ n) && decide (n ≤ IntKind.i64.max)) = true
  have e1 : IntKind.i64.min = -9223372036854775808 := rfl
  have e2 : IntKind.i64.max = 9223372036854775807 := rfl
  rw [e1, e2, Bool.and_eq_true, decide_eq_true_eq, decide_eq_true_eq]
  omega
theorem chAt_i64 {ps : List Int} (h : ps.length ≤ 128) (x : Nat) : I64 (chAt ps x) := by
  unfold chAt
  split
  · exact i64_small (Int.le_refl _) (by decide)
  · have := afterI_in ps x (ps.length - 1) 1
    exact i64_small this.1 (by omega)
theorem nxAt_i64 {ps : List Int} (h : ps.length ≤ 128) {x : Nat} (hx : x < ps.length) : I64 (nxAt ps x) := by
  unfold nxAt
  split
  · exact i64_small (Int.le_refl _) (by decide)
  · have := afterI_in ps (ps.getD x 0) (ps.length - (x + 1)) (x + 1)
    exact i64_small this.1 (by omega)
end Go.Proofs.Ytjggklfegcejhaa
namespace Go.Proofs.Ytjggklfegcejhaa
open Go.RowKit Go.PlainAid Go.Deep
set_option linter.unusedVariables false
set_option linter.unusedSimpArgs false

theorem made_zero (n : Nat) : (madeCells #[Value.int .i64 0] n).toList = (List.replicate n (0 : Int)).map (.int .i64) := by
  apply List.ext_getElem
  · simp [madeCells]
  · intro i h1 h2
    simp [madeCells, Nat.mod_one]
theorem own_far {w : World} {base n B : Nat} {v : Value} {xs cs : List Value} (h : w.ownsRow base 3 1 v n xs) (hb : BK w B cs 33) : v.ownBlock ≠ some B := fun e => by
  rcases h.2 with ⟨h1, _⟩ | ⟨g, cap, cur, h1, _, h3, _⟩
  · subst h1; cases e
  · subst h1
    have : g = B := Option.some.inj e
    subst this
    unfold BK at hb
    rw [h3] at hb
    simp at hb
theorem dAt_succ {t : TbC} {i : Nat} (h : i < t.th.length) : dAt t (i + 1) = putL (putL (putL (putL (putL (dAt t i) 0 ((dAt t i).pa ++ [(t.th[i]).pa])) 1 ((dAt t i).ch ++ [chAt (psT t) i])) 2 ((dAt t i).nx ++ [nxAt (psT t) i])) 3 ((dAt t i).fl ++ [(t.th[i]).fl])) 4 ((dAt t i).pr ++ (t.th[i]).pr) := by
  have h1 : (psT t).take (i + 1) = (psT t).take i ++ [(t.th[i]).pa] := by
    rw [List.take_succ_eq_append_getElem (by unfold psT; rw [List.length_map]; exact h)]; unfold psT; simp
  have h2 : (t.th.map (·.fl)).take (i + 1) = (t.th.map (·.fl)).take i ++ [(t.th[i]).fl] := by
    rw [List.take_succ_eq_append_getElem (by rw [List.length_map]; exact h)]; simp
  have h3 : (t.th.take (i + 1)).flatMap (·.pr) = (t.th.take i).flatMap (·.pr) ++ (t.th[i]).pr := by
    rw [List.take_succ_eq_append_getElem h, List.flatMap_append]; simp
  unfold dAt
  simp only [putL, h1, h2, h3, List.range_succ, List.map_append, List.map_cons, List.map_nil]
theorem sk_alloc {w : World} {r : Option Nat} (o : Obj) : w.heap.size ≤ ((w.alloc o).drew).heap.size ∧ ∀ z, z < w.heap.size → r ≠ some z → ((w.alloc o).drew).heap[z]? = w.heap[z]? :=
  ⟨by show _ ≤ (w.alloc o).heap.size; rw [World.size_alloc]; omega, fun z hz _ => Below.heap_alloc _ _ _ hz⟩
theorem sk_then {w Wa w3 : World} {r : Option Nat} (h : w.heap.size ≤ Wa.heap.size ∧ ∀ z, z < w.heap.size → r ≠ some z → Wa.heap[z]? = w.heap[z]?) (hg : Wa.grownBy w3 r) : w.heap.size ≤ w3.heap.size ∧ ∀ z, z < w.heap.size → r ≠ some z → w3.heap[z]? = w.heap[z]? :=
  ⟨Nat.le_trans h.1 hg.size, fun z hz hr => (hg.block z (Nat.lt_of_lt_of_le hz h.1) (fun e => hr e.symm)).trans (h.2 z hz hr)⟩
theorem app_lie {v : Value} {g n c H : Nat} (h : v.ownBlock = some g ∨ g = H) : (Value.slice (some ⟨g, 0, none⟩) n c).ownBlock = v.ownBlock ∨ ∀ b, (Value.slice (some ⟨g, 0, none⟩) n c).ownBlock = some b → H ≤ b := by
  rcases h with h | h
  · exact .inl h.symm
  · exact .inr (fun b hb => by have := Option.some.inj (show some g = some b from hb); omega)
/-- A world's lists lie in blocks from B on. -/
structure WFar (B : Nat) (q : Wv) (d : WdC) : Prop where
  f0 : ∀ b o, q.a0 = some ⟨b, o, none⟩ → 0 < d.gl.length → B ≤ b
  f1 : ∀ b o, q.a1 = some ⟨b, o, none⟩ → 0 < d.pa.length → B ≤ b
  f2 : ∀ b o, q.a2 = some ⟨b, o, none⟩ → 0 < d.ch.length → B ≤ b
  f3 : ∀ b o, q.a3 = some ⟨b, o, none⟩ → 0 < d.nx.length → B ≤ b
  f4 : ∀ b o, q.a4 = some ⟨b, o, none⟩ → 0 < d.fl.length → B ≤ b
  f5 : ∀ b o, q.a5 = some ⟨b, o, none⟩ → 0 < d.pr.length → B ≤ b
  f6 : ∀ b o, q.a6 = some ⟨b, o, none⟩ → 0 < d.ti.length → B ≤ b
theorem wrd_but {w w' : World} {q : Wv} {d : WdC} {B : Nat} {S : List Nat} (h : WRd w q d) (hf : WFar B q d) (hb : But w.heap.size S w w') (hs : ∀ b ∈ S, b < B) : WRd w' q d :=
  ⟨reads_but h.gl hb (fun b o e h0 hm => by have := hs b hm; have := hf.f0 b o e h0; omega), reads_but h.pa hb (fun b o e h0 hm => by have := hs b hm; have := hf.f1 b o e h0; omega), reads_but h.ch hb (fun b o e h0 hm => by have := hs b hm; have := hf.f2 b o e h0; omega),
   reads_but h.nx hb (fun b o e h0 hm => by have := hs b hm; have := hf.f3 b o e h0; omega), reads_but h.fl hb (fun b o e h0 hm => by have := hs b hm; have := hf.f4 b o e h0; omega), reads_but h.pr hb (fun b o e h0 hm => by have := hs b hm; have := hf.f5 b o e h0; omega),
   reads_but h.ti hb (fun b o e h0 hm => by have := hs b hm; have := hf.f6 b o e h0; omega), h.i1, h.i2, h.i3, h.i4, h.i5⟩
theorem new_far {x : TAd} {t : TbC} {w W2 : World} {B : Nat} {wr : World} {q : Wv} (h : NSt x t w W2 B wr q (dAt t t.th.length)) : WFar w.heap.size q (newD t) := by
  have hB := h.hB
  have hBF := h.hBF
  exact ⟨fun b o e h0 => by have := (h.gl.far b o e h0).2; omega, fun b o e _ => by have := ow_lo (h.own 0 (by decide)) b (by show (Value.slice q.a1 _ _).ownBlock = _; rw [e]; rfl); omega,
    fun b o e _ => by have := ow_lo (h.own 1 (by decide)) b (by show (Value.slice q.a2 _ _).ownBlock = _; rw [e]; rfl); omega, fun b o e _ => by have := ow_lo (h.own 2 (by decide)) b (by show (Value.slice q.a3 _ _).ownBlock = _; rw [e]; rfl); omega,
    fun b o e _ => by have := ow_lo (h.own 3 (by decide)) b (by show (Value.slice q.a4 _ _).ownBlock = _; rw [e]; rfl); omega, fun b o e _ => by have := ow_lo (h.own 4 (by decide)) b (by show (Value.slice q.a5 _ _).ownBlock = _; rw [e]; rfl); omega,
    fun b o e h0 => by have := (h.ti.far b o e h0).2; omega⟩
/-- What the new world reads as. -/
theorem new_reads {x : TAd} {t : TbC} {w W2 : World} {B : Nat} {wr Wf : World} {q : Wv} (h : NSt x t w W2 B wr q (dAt t t.th.length)) (hg : wr.grownBy Wf (some (w.heap.size + 1))) (hn : t.th.length ≤ 128)
    (hp : ∀ y ∈ t.th, I64 y.pa ∧ I64 y.fl ∧ (∀ v ∈ y.pr, I64 v) ∧ y.pr.length ≤ 16) (hl : q.l5 ≤ 16 * t.th.length) (e1 : q.l1 = t.th.length := by rfl) (e2 : q.l2 = t.th.length := by rfl) (e3 : q.l3 = t.th.length := by rfl) (e4 : q.l4 = t.th.length := by rfl)
    (hs : q.sc = 0 ∧ q.tu = 0 ∧ q.ov = 0 ∧ q.it = 0 ∧ q.go = 0 := by exact ⟨rfl, rfl, rfl, rfl, rfl⟩) : WRd Wf q (newD t) := by
  have hB := h.hB
  have hBF := h.hBF
  have hpl : (psT t).length = t.th.length := by unfold psT; rw [List.length_map]
  have row : ∀ k, k < 5 → (∀ x ∈ rowL (newD t) k, I64 x) → (rowN q k) ≤ 3000 → Reads Cd.is Wf (rowV q k) (rowL (newD t) k) := fun k hk hw hm => by
    have ho := (h.own k hk).kept hg (by
      cases hb : (rowV q k).ownBlock with
      | none => exact .inl rfl
      | some b => exact .inr (fun e => by have := ow_lo (h.own k hk) b hb; have := Option.some.inj e; omega))
    have ho : Wf.ownsRow W2.heap.size 3 1 (rowV q k) (rowN q k) ((rowL (newD t) k).map (.int .i64)) := ho
    have hlen : (rowL (newD t) k).length = rowN q k := by have := ho.1; rw [List.length_map] at this; omega
    refine reads_own (by rw [hlen]; exact ho) hw (by rw [hlen]; unfold reachBytes; omega) (by rw [hlen]; unfold maxLen; omega)
  have old : ∀ {a : Option Addr} {l c : Nat} {L : List Int}, OldL W2 w.heap.size B a l c L → Reads Cd.is Wf (.slice a l c) L := fun ho =>
    reads_but (S := [B, w.heap.size + 1]) ho.rd (by
      have h1 : But W2.heap.size [B, w.heap.size + 1] W2 wr := h.bn.more (fun x hx => by simp at hx; simp [hx])
      exact ⟨Nat.le_trans h1.size hg.size, fun b hb hnm => (hg.block b (Nat.lt_of_lt_of_le hb h1.size) (fun e => hnm (by have := Option.some.inj e; simp [this]))).trans (h1.blk b hb hnm)⟩) (fun b o e h0 hm => by
      have h2 := ho.far b o e h0
      simp at hm
      omega)
  obtain ⟨s1, s2, s3, s4, s5⟩ := hs
  have z : I64 0 := i64_small (Int.le_refl _) (by decide)
  refine ⟨old h.gl, row 0 (by decide) (fun v hv => ?_) (by show q.l1 ≤ _; omega), row 1 (by decide) (fun v hv => ?_) (by show q.l2 ≤ _; omega), row 2 (by decide) (fun v hv => ?_) (by show q.l3 ≤ _; omega), row 3 (by decide) (fun v hv => ?_) (by show q.l4 ≤ _; omega), row 4 (by decide) (fun v hv => ?_) (by show q.l5 ≤ _; omega), old h.ti, by rw [s1]; exact z, by rw [s2]; exact z, by rw [s3]; exact z, by rw [s4]; exact z, by rw [s5]; exact z⟩
  · have hv : v ∈ (psT t).take t.th.length := hv
    obtain ⟨y, hy, rfl⟩ := List.mem_map.1 (List.mem_of_mem_take hv)
    exact (hp y hy).1
  · have hv : v ∈ (List.range t.th.length).map (chAt (psT t)) := hv
    obtain ⟨k, _, rfl⟩ := List.mem_map.1 hv
    exact chAt_i64 (by omega) k
  · have hv : v ∈ (List.range t.th.length).map (nxAt (psT t)) := hv
    obtain ⟨k, hk, rfl⟩ := List.mem_map.1 hv
    exact nxAt_i64 (by omega) (by have := List.mem_range.1 hk; omega)
  · have hv : v ∈ (t.th.map (·.fl)).take t.th.length := hv
    obtain ⟨y, hy, rfl⟩ := List.mem_map.1 (List.mem_of_mem_take hv)
    exact (hp y hy).2.1
  · have hv : v ∈ (t.th.take t.th.length).flatMap (·.pr) := hv
    obtain ⟨y, hy, hvy⟩ := List.mem_flatMap.1 hv
    exact (hp y (List.mem_of_mem_take hy)).2.2.1 v hvy
/-- The shapes of what the first region makes. -/
def newG0 (s : Nat) (x : TAd) (t : TbC) : Nat → Value → Prop
  | 0, v => ∃ g, v = .slice (some ⟨g, 0, none⟩) 0 0
  | 1, v => v = .pointer (some ⟨s, 7, none⟩)
  | 2, v => v = .slice x.a7 t.gl.length x.c7
  | 3, v => ∃ a c, v = .slice a t.gl.length c
  | 4, v => v = .pointer (some ⟨s, 12, none⟩)
  | 5, v => v = .slice x.a12 t.da.length x.c12
  | 6, v => v = .int .i64 t.da.length
  | 7, v => ∃ g, v = .slice (some ⟨g, 0, none⟩) t.da.length t.da.length
  | 8, v => v = .pointer (some ⟨s, 2, none⟩)
  | 9, v => v = .int .i64 t.re
  | 10, v => ∃ z, v = .int .u64 z
  | 11, v => ∃ a c g z, v = .agg #[.slice a t.gl.length c, .slice none 0 0, .slice none 0 0, .slice none 0 0, .slice none 0 0, .slice none 0 0, .slice (some ⟨g, 0, none⟩) t.da.length t.da.length, .int .u64 z, .int .i64 0, .int .i64 0, .int .i64 0, .int .i64 0, .int .i64 0]
  | 12, v => ∃ B, v = .pointer (some ⟨B, 0, none⟩)
  | _, _ => True
/-- The facts on it. -/
def newGG (s : Nat) (x : TAd) (t : TbC) : Nat → Value → World → Prop
  | 0, v, w => w.ownsRow (s + 2) 3 1 v 0 []
  | 3, v, w => w.ownsRow (s + 2) 3 1 v t.gl.length (t.gl.map (.int .i64))
  | 7, v, w => w.ownsRow (s + 2) 3 1 v t.da.length ((List.replicate t.da.length (0 : Int)).map (.int .i64))
  | 11, v, w => ∀ a c g z, v = .agg #[.slice a t.gl.length c, .slice none 0 0, .slice none 0 0, .slice none 0 0, .slice none 0 0, .slice none 0 0, .slice (some ⟨g, 0, none⟩) t.da.length t.da.length, .int .u64 z, .int .i64 0, .int .i64 0, .int .i64 0, .int .i64 0, .int .i64 0] → w.ownsRow (s + 2) 3 1 (.slice a t.gl.length c) t.gl.length (t.gl.map (.int .i64)) ∧ w.ownsRow (s + 2) 3 1 (.slice (some ⟨g, 0, none⟩) t.da.length t.da.length) t.da.length ((List.replicate t.da.length (0 : Int)).map (.int .i64))
  | 12, v, w => ∀ B, v = .pointer (some ⟨B, 0, none⟩) → BK w B zeroW 33 ∧ s + 2 ≤ B
  | _, _, _ => True
theorem newGG_keep (s : Nat) (x : TAd) (t : TbC) : ∀ i v w w', Below w.heap.size w w' → newGG s x t i v w → newGG s x t i v w'
  | 0, v, w, w', hb, h => ow_below (size := 1) h hb
  | 3, v, w, w', hb, h => ow_below (size := 1) h hb
  | 7, v, w, w', hb, h => ow_below (size := 1) h hb
  | 11, v, w, w', hb, h => fun a c g z e => ⟨ow_below (h a c g z e).1 hb, ow_below (h a c g z e).2 hb⟩
  | 12, v, w, w', hb, h => fun B e => ⟨(h B e).1.below hb, (h B e).2⟩
  | 1, _, _, _, _, _ | 2, _, _, _, _, _ | 4, _, _, _, _, _ | 5, _, _, _, _, _ | 6, _, _, _, _, _ | 8, _, _, _, _, _ | 9, _, _, _, _, _ | 10, _, _, _, _, _ => trivial
  | n + 13, _, _, _, _, _ => trivial
set_option maxRecDepth 100000 in
set_option maxHeartbeats 16000000 in
theorem newC (x : TAd) (t : TbC) (w : World) (ht : TabIs w x t) (hn : t.th.length ≤ 128) (hp : ∀ y ∈ t.th, y.pr.length ≤ 16) (hg : t.gl.length ≤ 64) (hd : t.da.length ≤ 16) :
    Calls Try.prog 7 #[tabV x t] w fun e w' => ∃ q, e = .returned (worldV q) ∧ WRd w' q (newD t) ∧ Below w.heap.size w w' ∧ WFar w.heap.size q (newD t) := by
  obtain ⟨W0, hW0⟩ : ∃ W0, (w.alloc (.cells (tabC x t).toArray 28)).alloc (.cells zeroW.toArray 33) = W0 := ⟨_, rfl⟩
  have HBT : Hid (BK W0 w.heap.size (tabC x t) 28) := Lib.hid (by rw [← hW0]; exact (BK.new w _ _).alloc _)
  have HBR : Hid (BK W0 (w.heap.size + 1) zeroW 33) := Lib.hid (by
    rw [← hW0]
    have := BK.new (w.alloc (.cells (tabC x t).toArray 28)) zeroW 33
    rwa [World.size_alloc] at this)
  have HB0 : Hid (Below w.heap.size w W0) := Lib.hid (by rw [← hW0]; exact bl_a (bl_a (Below.refl _ _) _) _)
  have hz02 : w.heap.size + 2 ≤ W0.heap.size := HBR.out.lt
  have hz01 : w.heap.size < W0.heap.size := HBT.out.lt
  have HAF := Lib.hid (fun i p w' (hb : Below w.heap.size w w') hi => refAfter x t i p w' (ht.below hb) hi)
  have HSE := Lib.hid (fun n w' => refSeed n w')
  have HGL := Lib.hid (fun w' (hb : Below w.heap.size w w') => (ht.gl.rowI.ints).below hb)
  have HTH : Hid (∀ j (h : j < t.th.length), ∃ b off ra rc, x.a8 = some ⟨b, off, none⟩ ∧ b < w.heap.size ∧ (∀ wr, Below w.heap.size w wr → wr.cell? ⟨b, off + j * 9 + 2, none⟩ = some (.int .i64 (t.th[j]).pa) ∧ wr.cell? ⟨b, off + j * 9 + 3, none⟩ = some (.int .i64 (t.th[j]).fl) ∧ wr.cell? ⟨b, off + j * 9 + 5, none⟩ = some (.slice ra (t.th[j]).pr.length rc) ∧ Ints wr (.slice ra (t.th[j]).pr.length rc) (t.th[j]).pr)) := Lib.hid (fun j h => by
    obtain ⟨b, off, cap, hv, hcap, hblt, hcell⟩ := th_open ht.th (by omega)
    obtain ⟨r1, r2, r3, r4, hth, hrow⟩ := hcell j h
    obtain ⟨ra, rc, rfl, _⟩ := hth.pr.q.len
    refine ⟨b, off, ra, rc, by simp at hv; exact hv.1, hblt, fun wr hb => ⟨?_, ?_, ?_, hth.pr.rowI.ints.below hb⟩⟩
    · rw [hb.cell (p := ⟨b, off + j * 9 + 2, none⟩) hblt, hrow 2 (by decide)]; rfl
    · rw [hb.cell (p := ⟨b, off + j * 9 + 3, none⟩) hblt, hrow 3 (by decide)]; rfl
    · rw [hb.cell (p := ⟨b, off + j * 9 + 5, none⟩) hblt, hrow 5 (by decide)]; rfl)
  have HPW : Hid (∀ y ∈ t.th, I64 y.pa ∧ I64 y.fl ∧ (∀ v ∈ y.pr, I64 v) ∧ y.pr.length ≤ 16) := Lib.hid (fun y hy => by
    obtain ⟨j, hj, rfl⟩ := List.getElem_of_mem hy
    obtain ⟨b, off, cap, hv, hcap, hblt, hcell⟩ := th_open ht.th (by omega)
    obtain ⟨r1, r2, r3, r4, hth, hrow⟩ := hcell j hj
    refine ⟨hth.i2, hth.i3, fun v hv => ?_, hp _ hy⟩
    obtain ⟨ad, c, _, _, _, h4⟩ := hth.pr.rowI
    obtain ⟨m, hm, rfl⟩ := List.getElem_of_mem hv
    obtain ⟨_, _, _, _, _, h5⟩ := h4 m hm
    exact h5)
  have HGW : Hid (∀ v ∈ t.gl, I64 v) := Lib.hid (fun v hv => by
    obtain ⟨ad, c, _, _, _, h4⟩ := ht.gl.rowI
    obtain ⟨m, hm, rfl⟩ := List.getElem_of_mem hv
    obtain ⟨_, _, _, _, _, h5⟩ := h4 m hm
    exact h5)
  obtain ⟨i0, hi, hi1, hi2, hi3⟩ := info_parts info_intR
  have hmk := fun w => run_make_row' (P := Try.prog) 23 3 (.int .i64 0) 8 Try.underlying23 info_intR rfl .i64 .i64 t.da.length (by omega) (by omega) w
  have HMK := Lib.hid hmk
  clear hmk ht
  have kt0 := HBT.out.cell 0
  have kt1 := HBT.out.cell 1
  have kt2 := HBT.out.cell 2
  have kt3 := HBT.out.cell 3
  have kt4 := HBT.out.cell 4
  have kt5 := HBT.out.cell 5
  have kt6 := HBT.out.cell 6
  have kt7 := HBT.out.cell 7
  have kt8 := HBT.out.cell 8
  have kt9 := HBT.out.cell 9
  have kt10 := HBT.out.cell 10
  have kt11 := HBT.out.cell 11
  have kt12 := HBT.out.cell 12
  have kt13 := HBT.out.cell 13
  have kt14 := HBT.out.cell 14
  simp only [tabC, List.getElem?_cons_zero, List.getElem?_cons_succ] at kt0 kt1 kt2 kt3 kt4 kt5 kt6 kt7 kt8 kt9 kt10 kt11 kt12 kt13 kt14
  unfold tabV
  go_enter Try.func7, Try.ntmps7
  unfold tabC zeroW at hW0
  unfold tabC
  go_wp2_with fail
  clear hW0
  refine region_krip 13 (fun w' => Below W0.heap.size W0 w') (newG0 w.heap.size x t) (newGG w.heap.size x t) (by kernel_rfl) (by kernel_rfl) ((Below.refl _ _).drew) (newGG_keep _ _ _) (fun KK hKK => ?_)
  intro OPS
  simp only [List.take]
  refine inKrip_make rfl ⟨_, ⟨0, rfl⟩⟩ rfl (fun w' hS hF => ⟨.slice (some ⟨w'.heap.size, 0, none⟩) 0 0, w'.alloc (.cells #[] 3), ?_, ⟨_, rfl⟩, ?_, bl_a (Below.refl _ _) _, bl_then hS (bl_a (Below.refl _ _) _)⟩) ?_
  · go_simp
  · have := World.ownsRow_lit (base := w.heap.size + 2) (e := 3) (size := 1) w' #[] 0 (Nat.le_trans hz02 hS.size) (by decide) rfl
    exact this
  rintro u0 ⟨g0, rfl⟩
  simp only [Act.put, List.setIfInBounds_toArray, List.set_cons_zero, List.set_cons_succ]
  refine' inKrip_val rfl (fun _ _ => trivial) ?_ ?_ ?_ ?_
  rotate_left 1
  · rfl
  · (intro w' hS; obtain ⟨hcc, hff⟩ := bcell hS; go_simp; first | with_reducible rfl | skip)
  · (simp only [Act.put, List.setIfInBounds_toArray, List.set_cons_zero, List.set_cons_succ]; with_reducible rfl)
  refine' inKrip_val rfl (fun _ _ => trivial) ?_ ?_ ?_ ?_
  rotate_left 1
  · rfl
  · (intro w' hS; obtain ⟨hcc, hff⟩ := bcell hS; go_simp; first | with_reducible rfl | skip)
  · (simp only [Act.put, List.setIfInBounds_toArray, List.set_cons_zero, List.set_cons_succ]; with_reducible rfl)
  refine inKrip_make rfl ⟨_, ⟨none, 0, rfl⟩⟩ rfl (fun w' hS hF => ?_) ?_
  · have h0 : w'.ownsRow (w.heap.size + 2) 3 1 (.slice (some ⟨g0, 0, none⟩) 0 0) 0 [] := by
      have := hF ⟨0, .data⟩ (by simp) rfl
      exact this
    obtain ⟨v', w'', hr, hsh, hown, hbl⟩ := app_lit w' (w.heap.size + 2) g0 h0 x.a7 x.c7 t.gl (HGL.out w' (bl_then HB0.out hS)) (by omega) (Nat.le_trans hz02 hS.size) 23
    refine ⟨v', w'', ?_, hsh, hown, hbl, bl_then hS hbl⟩
    exact run_app (.tmp 8) (.tmp 10) 23 rfl rfl rfl hr
  rintro u3 ⟨ga, gc, rfl⟩
  simp only [Act.put, List.setIfInBounds_toArray, List.set_cons_zero, List.set_cons_succ]
  refine' inKrip_val rfl (fun _ _ => trivial) ?_ ?_ ?_ ?_
  rotate_left 1
  · rfl
  · (intro w' hS; obtain ⟨hcc, hff⟩ := bcell hS; go_simp; first | with_reducible rfl | skip)
  · (simp only [Act.put, List.setIfInBounds_toArray, List.set_cons_zero, List.set_cons_succ]; with_reducible rfl)
  refine' inKrip_val rfl (fun _ _ => trivial) ?_ ?_ ?_ ?_
  rotate_left 1
  · rfl
  · (intro w' hS; obtain ⟨hcc, hff⟩ := bcell hS; go_simp; first | with_reducible rfl | skip)
  · (simp only [Act.put, List.setIfInBounds_toArray, List.set_cons_zero, List.set_cons_succ]; with_reducible rfl)
  refine' inKrip_val rfl (fun _ _ => trivial) ?_ ?_ ?_ ?_
  rotate_left 1
  · rfl
  · (intro w' hS; obtain ⟨hcc, hff⟩ := bcell hS; go_simp; first | with_reducible rfl | skip)
  · (simp only [Act.put, List.setIfInBounds_toArray, List.set_cons_zero, List.set_cons_succ]; with_reducible rfl)
  refine inKrip_make rfl ⟨_, ⟨0, rfl⟩⟩ rfl (fun w' hS hF => ?_) ?_
  · refine ⟨.slice (some ⟨w'.heap.size, 0, none⟩) t.da.length t.da.length, w'.alloc (.cells (madeCells #[.int .i64 0] t.da.length) 3), ?_, ⟨_, rfl⟩, ?_, bl_a (Below.refl _ _) _, bl_then hS (bl_a (Below.refl _ _) _)⟩
    · have := HMK.out w'
      go_simp
    · have := World.ownsRow_lit (base := w.heap.size + 2) (e := 3) (size := 1) w' (madeCells #[.int .i64 0] t.da.length) t.da.length (Nat.le_trans hz02 hS.size) (by unfold maxLen; omega) (by simp [size_madeCells])
      rw [made_zero] at this
      exact this
  rintro u7 ⟨g7, rfl⟩
  simp only [Act.put, List.setIfInBounds_toArray, List.set_cons_zero, List.set_cons_succ]
  refine' inKrip_val rfl (fun _ _ => trivial) ?_ ?_ ?_ ?_
  rotate_left 1
  · rfl
  · (intro w' hS; obtain ⟨hcc, hff⟩ := bcell hS; go_simp; first | with_reducible rfl | skip)
  · (simp only [Act.put, List.setIfInBounds_toArray, List.set_cons_zero, List.set_cons_succ]; with_reducible rfl)
  refine' inKrip_val rfl (fun _ _ => trivial) ?_ ?_ ?_ ?_
  rotate_left 1
  · rfl
  · (intro w' hS; obtain ⟨hcc, hff⟩ := bcell hS; go_simp; first | with_reducible rfl | skip)
  · (simp only [Act.put, List.setIfInBounds_toArray, List.set_cons_zero, List.set_cons_succ]; with_reducible rfl)
  refine inKrip_any (f := 17) (args := #[.int .i64 t.re]) rfl ⟨_, ⟨0, rfl⟩⟩ ?_ ?_ ?_ ?_
  · rfl
  · intro w' hS; go_simp
  · intro w' hS hF
    refine (HSE.out t.re w').mono (fun e w'' h => ?_)
    obtain ⟨z, rfl, rfl⟩ := h
    exact ⟨_, rfl, ⟨z, rfl⟩, trivial, Below.refl _ _, hS⟩
  rintro u10 ⟨z, rfl⟩
  simp only [Act.put, List.setIfInBounds_toArray, List.set_cons_zero, List.set_cons_succ]
  refine inKrip_make rfl ⟨_, ⟨none, 0, 0, 0, rfl⟩⟩ rfl (fun w' hS hF => ?_) ?_
  · have h3 := hF ⟨3, .data⟩ (by simp) rfl
    have h7 := hF ⟨7, .data⟩ (by simp) rfl
    refine ⟨.agg #[.slice ga t.gl.length gc, .slice none 0 0, .slice none 0 0, .slice none 0 0, .slice none 0 0, .slice none 0 0, .slice (some ⟨g7, 0, none⟩) t.da.length t.da.length, .int .u64 z, .int .i64 0, .int .i64 0, .int .i64 0, .int .i64 0, .int .i64 0], w', ?_, ⟨_, _, _, _, rfl⟩, ?_, Below.refl _ _, hS⟩
    · go_simp
    · rintro a c g z' e
      simp only [Value.agg.injEq, Array.mk.injEq, List.cons.injEq, Value.slice.injEq, and_true, true_and, Option.some.injEq, Addr.mk.injEq, Value.int.injEq] at e
      obtain ⟨⟨rfl, rfl⟩, rfl, rfl⟩ := e
      exact ⟨h3, h7⟩
  rintro u11 ⟨ga', gc', g7', z', rfl⟩
  simp only [Act.put, List.setIfInBounds_toArray, List.set_cons_zero, List.set_cons_succ]
  refine inKrip_make rfl ⟨_, ⟨0, rfl⟩⟩ rfl (fun w' hS hF => ?_) ?_
  · refine ⟨.pointer (some ⟨w'.heap.size, 0, none⟩), w'.alloc (.cells zeroW.toArray 33), ?_, ⟨_, rfl⟩, ?_, bl_a (Below.refl _ _) _, bl_then hS (bl_a (Below.refl _ _) _)⟩
    · unfold zeroW; go_simp
    · rintro B e
      simp only [Value.pointer.injEq, Option.some.injEq, Addr.mk.injEq, and_true] at e
      subst e
      exact ⟨BK.new _ _ _, Nat.le_trans hz02 hS.size⟩
  rintro u12 ⟨B, rfl⟩
  simp only [Act.put, List.setIfInBounds_toArray, List.set_cons_zero, List.set_cons_succ]
  refine inKrip_nil (hKK.out _ _ (fun w1 hS hF => ?_))
  simp only [List.drop]
  have h11 : newGG w.heap.size x t 11 (.agg #[.slice ga' t.gl.length gc', .slice none 0 0, .slice none 0 0, .slice none 0 0, .slice none 0 0, .slice none 0 0, .slice (some ⟨g7', 0, none⟩) t.da.length t.da.length, .int .u64 z', .int .i64 0, .int .i64 0, .int .i64 0, .int .i64 0, .int .i64 0]) w1 := hF 11 (by decide)
  have h12 : newGG w.heap.size x t 12 (.pointer (some ⟨B, 0, none⟩)) w1 := hF 12 (by decide)
  clear hF hKK
  obtain ⟨hoa, ho7⟩ := h11 _ _ _ _ rfl
  obtain ⟨hBK, hBs⟩ := h12 _ rfl
  have HOA := Lib.hid hoa
  have HO7 := Lib.hid ho7
  have HBK := Lib.hid hBK
  have HS1 := Lib.hid hS
  have hzB : B < w1.heap.size := hBK.lt
  have e0 := hBK.cell 0
  have e1 := hBK.cell 1
  have e2 := hBK.cell 2
  have e3 := hBK.cell 3
  have e4 := hBK.cell 4
  have e5 := hBK.cell 5
  have e6 := hBK.cell 6
  have e7 := hBK.cell 7
  have e8 := hBK.cell 8
  have e9 := hBK.cell 9
  have e10 := hBK.cell 10
  have e11 := hBK.cell 11
  have e12 := hBK.cell 12
  have f0 := hBK.fr 0
  have f1 := hBK.fr 1
  have f2 := hBK.fr 2
  have f3 := hBK.fr 3
  have f4 := hBK.fr 4
  have f5 := hBK.fr 5
  have f6 := hBK.fr 6
  have f7 := hBK.fr 7
  have f8 := hBK.fr 8
  have f9 := hBK.fr 9
  have f10 := hBK.fr 10
  have f11 := hBK.fr 11
  have f12 := hBK.fr 12
  simp only [zeroW, List.getElem?_cons_zero, List.getElem?_cons_succ] at e0 e1 e2 e3 e4 e5 e6 e7 e8 e9 e10 e11 e12
  clear h11 h12 hoa ho7 hBK hS
  clear kt0 kt1 kt2 kt3 kt4 kt5 kt6 kt7 kt8 kt9 kt10 kt11 kt12 kt13 kt14
  go_upto_region 2 with (fail)
  generalize hW2 : World.setCell _ ⟨B, 12, none⟩ _ = W2
  have HGR : Hid (w1.grownBy W2 (some B)) := Lib.hid (by
    rw [← hW2]
    exact (gr_trans (gr_trans (gr_trans (gr_trans (gr_trans (gr_trans (gr_trans (gr_trans (gr_trans (gr_trans (gr_trans (gr_trans (gr_set w1 B 0 _) (gr_set _ B 1 _)) (gr_set _ B 2 _)) (gr_set _ B 3 _)) (gr_set _ B 4 _)) (gr_set _ B 5 _)) (gr_set _ B 6 _)) (gr_set _ B 7 _)) (gr_set _ B 8 _)) (gr_set _ B 9 _)) (gr_set _ B 10 _)) (gr_set _ B 11 _)) (gr_set _ B 12 _)))
  have HBW : Hid (BK W2 B (worldC ⟨ga', none, none, none, none, none, some ⟨g7', 0, none⟩, t.gl.length, 0, 0, 0, 0, 0, t.da.length, gc', 0, 0, 0, 0, 0, t.da.length, z', 0, 0, 0, 0, 0⟩) 33) := Lib.hid (by
    rw [← hW2]
    have hBK := HBK.out
    have := (((((((((((((hBK.set 0 (.slice ga' t.gl.length gc')).set 1 (.slice none 0 0)).set 2 (.slice none 0 0)).set 3 (.slice none 0 0)).set 4 (.slice none 0 0)).set 5 (.slice none 0 0)).set 6 (.slice (some ⟨g7', 0, none⟩) t.da.length t.da.length)).set 7 (.int .u64 z')).set 8 (.int .i64 0)).set 9 (.int .i64 0)).set 10 (.int .i64 0)).set 11 (.int .i64 0)).set 12 (.int .i64 0))
    simp only [zeroW, List.set_cons_zero, List.set_cons_succ] at this
    exact this)
  clear hW2 e0 e1 e2 e3 e4 e5 e6 e7 e8 e9 e10 e11 e12 f0 f1 f2 f3 f4 f5 f6 f7 f8 f9 f10 f11 f12
  have HST : Hid (NSt x t w W2 B W2 ⟨ga', none, none, none, none, none, some ⟨g7', 0, none⟩, t.gl.length, 0, 0, 0, 0, 0, t.da.length, gc', 0, 0, 0, 0, 0, t.da.length, z', 0, 0, 0, 0, 0⟩ (dAt t 0)) := Lib.hid (by
    have hsz := HGR.out.size
    have hs1 := HS1.out.size
    have n1 := own_far HOA.out HBK.out
    have n2 := own_far HO7.out HBK.out
    have k1 : W2.ownsRow (w.heap.size + 2) 3 1 (.slice ga' t.gl.length gc') t.gl.length (t.gl.map (.int .i64)) := HOA.out.kept HGR.out (.inr (fun e => n1 e))
    have k2 : W2.ownsRow (w.heap.size + 2) 3 1 (.slice (some ⟨g7', 0, none⟩) t.da.length t.da.length) t.da.length ((List.replicate t.da.length (0 : Int)).map (.int .i64)) := HO7.out.kept HGR.out (.inr (fun e => n2 e))
    refine ⟨(HBT.out.below HS1.out).kept HGR.out (fun j hj => by have := Option.some.inj hj; omega), (HBR.out.below HS1.out).kept HGR.out (fun j hj => by have := Option.some.inj hj; omega), HBW.out, hBs, by omega, Nat.le_refl _, fun k hk => ?_, fun j k hj hk hjk b hb => ?_, bl_g (bl_then HB0.out HS1.out) HGR.out (fun k hk => by have := Option.some.inj hk; omega), But.refl _ _ _, ⟨rfl, ?_, fun b o e h0 => ?_⟩, ⟨by simp [dAt], ?_, fun b o e h0 => ?_⟩⟩
    · match k, hk with
      | 0, _ | 1, _ | 2, _ | 3, _ | 4, _ => exact World.ownsRow_nil _ _ _ _
    · match j, hj with
      | 0, _ | 1, _ | 2, _ | 3, _ | 4, _ => cases hb
    · exact reads_own (L := t.gl) k1 HGW.out (by unfold reachBytes; omega) (by unfold maxLen; omega)
    · exact ⟨fun h => by subst h; exact n1 (by dsimp only at e; rw [e]; rfl), by dsimp only at e; exact ow_ge k1 b o e⟩
    · have := reads_own (L := List.replicate t.da.length (0 : Int)) (by rw [List.length_replicate]; exact k2) (fun x hx => by rw [List.eq_of_mem_replicate hx]; rfl) (by rw [List.length_replicate]; unfold reachBytes; omega) (by rw [List.length_replicate]; unfold maxLen; omega)
      exact this
    · exact ⟨fun h => by subst h; exact n2 (by dsimp only at e; rw [e]; rfl), by dsimp only at e; exact ow_ge k2 b o e⟩)
  clear HOA HO7 HBK HGR HBW HBT HBR
  unfold tabV tabC at HAF
  go_wp2_with fail
  go_loopw [4] (fun iv wr => ∃ (i l5 : Nat) (a1 a2 a3 a4 a5 : Option Addr) (c1 c2 c3 c4 c5 : Nat), iv = .int .i64 i ∧ i ≤ t.th.length ∧ l5 ≤ 16 * i ∧ Hid (NSt x t w W2 B wr ⟨ga', a1, a2, a3, a4, a5, some ⟨g7', 0, none⟩, t.gl.length, i, i, i, i, l5, t.da.length, gc', c1, c2, c3, c4, c5, t.da.length, z', 0, 0, 0, 0, 0⟩ (dAt t i))) (fun iv _ => t.th.length - (intOf iv).toNat)
  case atStart => exact ⟨0, 0, none, none, none, none, none, 0, 0, 0, 0, 0, rfl, Nat.zero_le _, Nat.zero_le _, HST⟩
  case round =>
    obtain ⟨i, l5, a1, a2, a3, a4, a5, c1, c2, c3, c4, c5, rfl, hil, hl5, HN⟩ := hrel
    clear HST
    by_cases hlt : i < t.th.length
    · obtain ⟨b, off, ra, rc, hx8, hbl, hcells⟩ := HTH.out i hlt
      have HPy := Lib.hid (HPW.out t.th[i] (List.getElem_mem hlt))
      have HDA : Hid (dAt t (i + 1) = putL (putL (putL (putL (putL (dAt t i) 0 ((dAt t i).pa ++ [(t.th[i]).pa])) 1 ((dAt t i).ch ++ [chAt (psT t) i])) 2 ((dAt t i).nx ++ [nxAt (psT t) i])) 3 ((dAt t i).fl ++ [(t.th[i]).fl])) 4 ((dAt t i).pr ++ (t.th[i]).pr)) := Lib.hid (dAt_succ hlt)
      have HCH : Hid (chAt (psT t) i = if i = 0 then 0 else afterI (t.th.map (·.pa)) i (t.th.length - 1) 1) := Lib.hid (by unfold chAt psT; rw [List.length_map])
      have HNX : Hid (nxAt (psT t) i = if (t.th[i]).pa = 0 then 0 else afterI (t.th.map (·.pa)) (t.th[i]).pa (t.th.length - (i + 1)) (i + 1)) := Lib.hid (by
        unfold nxAt
        have : (psT t).getD i 0 = (t.th[i]).pa := by unfold psT; rw [List.getD_eq_getElem?_getD, List.getElem?_map, List.getElem?_eq_getElem hlt]; rfl
        rw [this]; unfold psT; rw [List.length_map])
      have HCE := Lib.hid hcells
      generalize chAt (psT t) i = chv at *
      generalize nxAt (psT t) i = nxv at *
      generalize t.th[i] = y at *
      obtain ⟨z2, z3, z5, hzi⟩ := hcells wr HN.out.bl
      have HA1 := Lib.hid (fun w' (hb : Below w.heap.size w w') => HAF.out 1 i w' hb (by omega))
      have HA2 := Lib.hid (fun w' (hb : Below w.heap.size w w') => HAF.out (i + 1) y.pa w' hb (by omega))
      rw [show (((i + 1 : Nat)) : Int) = (i : Int) + 1 from by omega] at HA2
      have HWR := Lib.hid (And.intro (show IntKind.i64.wrap ((i : Int) + 1) = (i : Int) + 1 from IntWalk.i64_in _ (by omega)) (show wrap64 ((i : Int) + 1) = (i : Int) + 1 from IntWalk.wrap64_in _ (by omega)))
      have HTT := Lib.hid HN.out.bt
      have kt8 := HTT.out.cell 8
      simp only [tabC, List.getElem?_cons_zero, List.getElem?_cons_succ] at kt8
      rw [hx8] at kt8
      have hzs : w.heap.size < wr.heap.size := HTT.out.lt
      clear hcells hzi kt8
      simp only [hx8] at HA1 HA2
      have kt0 := HTT.out.cell 0
      have kt1 := HTT.out.cell 1
      have kt2 := HTT.out.cell 2
      have kt3 := HTT.out.cell 3
      have kt4 := HTT.out.cell 4
      have kt5 := HTT.out.cell 5
      have kt6 := HTT.out.cell 6
      have kt7 := HTT.out.cell 7
      have kt8 := HTT.out.cell 8
      have kt9 := HTT.out.cell 9
      have kt10 := HTT.out.cell 10
      have kt11 := HTT.out.cell 11
      have kt12 := HTT.out.cell 12
      have kt13 := HTT.out.cell 13
      have kt14 := HTT.out.cell 14
      simp only [tabC, List.getElem?_cons_zero, List.getElem?_cons_succ] at kt0 kt1 kt2 kt3 kt4 kt5 kt6 kt7 kt8 kt9 kt10 kt11 kt12 kt13 kt14
      rw [hx8] at kt8
      have HX8 := Lib.hid hx8
      clear hx8
      by_cases hi0 : i = 0
      · have hgt : ¬ ((0 : Int) < (i : Int)) := by omega
        have hchv : chv = 0 := by rw [HCH.out, if_pos hi0]
        subst hchv
        clear hi0
        by_cases hp0 : y.pa = 0
        · have hnv : nxv = 0 := by rw [HNX.out, if_pos hp0]
          have e1 : (y.pa != 0) = false := by simp [hp0]
          have e2 : (y.pa == 0) = true := by simp [hp0]
          subst hnv
          clear hp0
          go_upto_region 11 with (fail)
          clear kt0 kt1 kt2 kt3 kt4 kt5 kt6 kt7 kt8 kt9 kt10 kt11 kt12 kt13 kt14 HTT HWR hgt e1 e2
          as_aux_lemma =>
            -- wr: the world; 0: the row; a1, c1: where it lies; y.pa: the number; (dAt t i).pa: the list so far; 12: the next region; w7: the world behind
            have pB := HN.out.bw.cell (0 + 1)
            simp only [worldC, putR, List.getElem?_cons_zero, List.getElem?_cons_succ] at pB
            have HOW : Hid ((wr).ownsRow W2.heap.size 3 1 (.slice a1 i c1) i (((dAt t i).pa).map (.int .i64))) := Lib.hid (HN.out.own 0 (by decide))
            have HWN := Lib.hid (HOW.out.alloc (.cells #[.int .i64 y.pa] 3))
            have HNa := Lib.hid (HN.out.below (bl_a (Below.refl _ _) (.cells #[.int .i64 y.pa] 3)))
            have hzw : W2.heap.size ≤ (wr).heap.size := HN.out.hW
            have hzb : B < (wr).heap.size := HN.out.bw.lt
            go_wp2_with (at_builtin; refine wpList_append_lies _ rfl _ _ 23 rfl W2.heap.size 3 i0 (.int .i64 0) 1 8 Try.underlying23 hi hi1 hi2 hi3 rfl (by decide) _ i (((dAt t i).pa).map (.int .i64)) rfl HWN.out ⟨(wr).heap.size, 0, none⟩ 1 1 [.int .i64 y.pa] rfl rfl (int_newS _ _ _) (ow_one rfl) (by decide) (by unfold maxLen; omega) (by omega) (by simp; omega) _ rfl ?_; intro g1 k1 w3 hown3 hgrow3 hat3 hlt3; refine Hid.out ?_)
            refine Lib.hid ?_
            have HM3 := Lib.hid (HNa.out.mid (k := 0) (by decide) hgrow3)
            have HPUT := Lib.hid (HNa.out.put (k := 0) (by decide) hgrow3 (L := (dAt t i).pa ++ [y.pa]) (by rw [List.map_append]; exact hown3) (app_lie hat3))
            clear pB hown3 hgrow3 hat3 hzb HOW HWN HNa HN
            have q0 := HM3.out.2.2.cell (0 + 1)
            have q1 := HM3.out.2.2.fr (0 + 1)
            simp only [worldC, putR, List.getElem?_cons_zero, List.getElem?_cons_succ] at q0
            have hzb3 : B < w3.heap.size := HM3.out.2.2.lt
            go_upto_region 12 with (fail)
            generalize hWn : World.setCell w3 _ _ = w7
            have HN : Hid (NSt x t w W2 B w7 _ _) := Lib.hid (by rw [← hWn]; exact HPUT.out)
            clear hWn HPUT HM3 q0 q1 hzb3 hlt3 hzw
            -- w7: the world; 1: the row; a2, c2: where it lies; 0: the number; (dAt t i).ch: the list so far; 13: the next region; w8: the world behind
            have pB := HN.out.bw.cell (1 + 1)
            simp only [worldC, putR, List.getElem?_cons_zero, List.getElem?_cons_succ] at pB
            have HOW : Hid ((w7).ownsRow W2.heap.size 3 1 (.slice a2 i c2) i (((dAt t i).ch).map (.int .i64))) := Lib.hid (HN.out.own 1 (by decide))
            have HWN := Lib.hid (HOW.out.alloc (.cells #[.int .i64 0] 3))
            have HNa := Lib.hid (HN.out.below (bl_a (Below.refl _ _) (.cells #[.int .i64 0] 3)))
            have hzw : W2.heap.size ≤ (w7).heap.size := HN.out.hW
            have hzb : B < (w7).heap.size := HN.out.bw.lt
            go_wp2_with (at_builtin; refine wpList_append_lies _ rfl _ _ 23 rfl W2.heap.size 3 i0 (.int .i64 0) 1 8 Try.underlying23 hi hi1 hi2 hi3 rfl (by decide) _ i (((dAt t i).ch).map (.int .i64)) rfl HWN.out ⟨(w7).heap.size, 0, none⟩ 1 1 [.int .i64 0] rfl rfl (int_newS _ _ _) (ow_one rfl) (by decide) (by unfold maxLen; omega) (by omega) (by simp; omega) _ rfl ?_; intro g2 k2 w3 hown3 hgrow3 hat3 hlt3; refine Hid.out ?_)
            refine Lib.hid ?_
            have HM3 := Lib.hid (HNa.out.mid (k := 1) (by decide) hgrow3)
            have HPUT := Lib.hid (HNa.out.put (k := 1) (by decide) hgrow3 (L := (dAt t i).ch ++ [0]) (by rw [List.map_append]; exact hown3) (app_lie hat3))
            clear pB hown3 hgrow3 hat3 hzb HOW HWN HNa HN
            have q0 := HM3.out.2.2.cell (1 + 1)
            have q1 := HM3.out.2.2.fr (1 + 1)
            simp only [worldC, putR, List.getElem?_cons_zero, List.getElem?_cons_succ] at q0
            have hzb3 : B < w3.heap.size := HM3.out.2.2.lt
            go_upto_region 13 with (fail)
            generalize hWn : World.setCell w3 _ _ = w8
            have HN : Hid (NSt x t w W2 B w8 _ _) := Lib.hid (by rw [← hWn]; exact HPUT.out)
            clear hWn HPUT HM3 q0 q1 hzb3 hlt3 hzw
            -- w8: the world; 2: the row; a3, c3: where it lies; 0: the number; (dAt t i).nx: the list so far; 14: the next region; w9: the world behind
            have pB := HN.out.bw.cell (2 + 1)
            simp only [worldC, putR, List.getElem?_cons_zero, List.getElem?_cons_succ] at pB
            have HOW : Hid ((w8).ownsRow W2.heap.size 3 1 (.slice a3 i c3) i (((dAt t i).nx).map (.int .i64))) := Lib.hid (HN.out.own 2 (by decide))
            have HWN := Lib.hid (HOW.out.alloc (.cells #[.int .i64 0] 3))
            have HNa := Lib.hid (HN.out.below (bl_a (Below.refl _ _) (.cells #[.int .i64 0] 3)))
            have hzw : W2.heap.size ≤ (w8).heap.size := HN.out.hW
            have hzb : B < (w8).heap.size := HN.out.bw.lt
            go_wp2_with (at_builtin; refine wpList_append_lies _ rfl _ _ 23 rfl W2.heap.size 3 i0 (.int .i64 0) 1 8 Try.underlying23 hi hi1 hi2 hi3 rfl (by decide) _ i (((dAt t i).nx).map (.int .i64)) rfl HWN.out ⟨(w8).heap.size, 0, none⟩ 1 1 [.int .i64 0] rfl rfl (int_newS _ _ _) (ow_one rfl) (by decide) (by unfold maxLen; omega) (by omega) (by simp; omega) _ rfl ?_; intro g3 k3 w3 hown3 hgrow3 hat3 hlt3; refine Hid.out ?_)
            refine Lib.hid ?_
            have HM3 := Lib.hid (HNa.out.mid (k := 2) (by decide) hgrow3)
            have HPUT := Lib.hid (HNa.out.put (k := 2) (by decide) hgrow3 (L := (dAt t i).nx ++ [0]) (by rw [List.map_append]; exact hown3) (app_lie hat3))
            clear pB hown3 hgrow3 hat3 hzb HOW HWN HNa HN
            have q0 := HM3.out.2.2.cell (2 + 1)
            have q1 := HM3.out.2.2.fr (2 + 1)
            simp only [worldC, putR, List.getElem?_cons_zero, List.getElem?_cons_succ] at q0
            have hzb3 : B < w3.heap.size := HM3.out.2.2.lt
            go_upto_region 14 with (fail)
            generalize hWn : World.setCell w3 _ _ = w9
            have HN : Hid (NSt x t w W2 B w9 _ _) := Lib.hid (by rw [← hWn]; exact HPUT.out)
            clear hWn HPUT HM3 q0 q1 hzb3 hlt3 hzw
            as_aux_lemma =>
              have HOW : Hid (w9.ownsRow W2.heap.size 3 1 (.slice a4 i c4) i ((dAt t i).fl.map (.int .i64))) := Lib.hid (HN.out.own 3 (by decide))
              have hzw : W2.heap.size ≤ w9.heap.size := HN.out.hW
              have HRD : Hid (∀ w' : World, (w9.heap.size ≤ w'.heap.size ∧ ∀ z, z < w9.heap.size → (Value.slice a4 i c4).ownBlock ≠ some z → w'.heap[z]? = w9.heap[z]?) →
                  w'.cell? ⟨B, 4, none⟩ = some (.slice a4 i c4) ∧ w'.cell? ⟨w.heap.size, 8, none⟩ = some (.slice (some ⟨b, off, none⟩) t.th.length x.c8) ∧ w'.cell? ⟨b, off + i * 9 + 3, none⟩ = some (.int .i64 y.fl) ∧ b < w'.heap.size ∧ B < w'.heap.size) := Lib.hid (fun w' hS => by
                have hlo : ∀ z, z < W2.heap.size → (Value.slice a4 i c4).ownBlock ≠ some z := fun z hz e => by have := ow_lo HOW.out z e; omega
                have h1 := HN.out.hBF
                have h2 := HN.out.hB
                have h3 := HN.out.hW
                refine ⟨?_, ?_, ?_, by omega, by omega⟩
                · rw [World.cell?_of_block (a := ⟨B, 4, none⟩) (hS.2 B (by omega) (hlo B (by omega)))]; exact HN.out.bw.cell 4
                · rw [World.cell?_of_block (a := ⟨w.heap.size, 8, none⟩) (hS.2 w.heap.size (by omega) (hlo _ (by omega))), ← HX8.out]; exact HN.out.bt.cell 8
                · rw [World.cell?_of_block (a := ⟨b, off + i * 9 + 3, none⟩) (hS.2 b (by omega) (hlo b (by omega)))]; exact (HCE.out w9 HN.out.bl).2.1)
              have hiz : (0 : Int) ≤ (i : Int) := by omega
              have hit : (i : Int) < (t.th.length : Int) := by omega
              refine region_last (.rd 0 (.rd 1 (.rd 2 (.rd 3 (.rd 4 (.rd 5 (.rd 6 (.rd 7 (.one 8 (.one 9 (.one 10 .done))))))))))) (fun w' : World => w9.heap.size ≤ w'.heap.size ∧ ∀ z, z < w9.heap.size → (Value.slice a4 i c4).ownBlock ≠ some z → w'.heap[z]? = w9.heap[z]?) (by kernel_rfl) (by kernel_rfl) ⟨Nat.le_refl _, fun _ _ _ => rfl⟩ (fun KK hKK => ?_)
              intro OPS
              simp only [Ways.see, List.getElem?_cons_zero, List.getElem?_cons_succ]
              refine' inWays_read ?_ ?_ ?_ ?_
              rotate_left 2
              · rfl
              · (intro w' hS; obtain ⟨r0, r1, r2, r3, r4⟩ := HRD.out w' hS; go_simp; first | with_reducible rfl | skip)
              · (simp only [Act.put, List.setIfInBounds_toArray, List.set_cons_zero, List.set_cons_succ]; with_reducible rfl)
              refine' inWays_read ?_ ?_ ?_ ?_
              rotate_left 2
              · rfl
              · (intro w' hS; obtain ⟨r0, r1, r2, r3, r4⟩ := HRD.out w' hS; go_simp; first | with_reducible rfl | skip)
              · (simp only [Act.put, List.setIfInBounds_toArray, List.set_cons_zero, List.set_cons_succ]; with_reducible rfl)
              refine' inWays_read ?_ ?_ ?_ ?_
              rotate_left 2
              · rfl
              · (intro w' hS; obtain ⟨r0, r1, r2, r3, r4⟩ := HRD.out w' hS; go_simp; first | with_reducible rfl | skip)
              · (simp only [Act.put, List.setIfInBounds_toArray, List.set_cons_zero, List.set_cons_succ]; with_reducible rfl)
              refine' inWays_read ?_ ?_ ?_ ?_
              rotate_left 2
              · rfl
              · (intro w' hS; obtain ⟨r0, r1, r2, r3, r4⟩ := HRD.out w' hS; go_simp; first | with_reducible rfl | skip)
              · (simp only [Act.put, List.setIfInBounds_toArray, List.set_cons_zero, List.set_cons_succ]; with_reducible rfl)
              refine' inWays_read ?_ ?_ ?_ ?_
              rotate_left 2
              · rfl
              · (intro w' hS; obtain ⟨r0, r1, r2, r3, r4⟩ := HRD.out w' hS; go_simp; first | with_reducible rfl | skip)
              · (simp only [Act.put, List.setIfInBounds_toArray, List.set_cons_zero, List.set_cons_succ]; with_reducible rfl)
              refine' inWays_read ?_ ?_ ?_ ?_
              rotate_left 2
              · rfl
              · (intro w' hS; obtain ⟨r0, r1, r2, r3, r4⟩ := HRD.out w' hS; go_simp; first | with_reducible rfl | skip)
              · (simp only [Act.put, List.setIfInBounds_toArray, List.set_cons_zero, List.set_cons_succ]; with_reducible rfl)
              refine' inWays_read ?_ ?_ ?_ ?_
              rotate_left 2
              · rfl
              · (intro w' hS; obtain ⟨r0, r1, r2, r3, r4⟩ := HRD.out w' hS; go_simp; first | with_reducible rfl | skip)
              · (simp only [Act.put, List.setIfInBounds_toArray, List.set_cons_zero, List.set_cons_succ]; with_reducible rfl)
              refine' inWays_read ?_ ?_ ?_ ?_
              rotate_left 2
              · rfl
              · (intro w' hS; obtain ⟨r0, r1, r2, r3, r4⟩ := HRD.out w' hS; go_simp; first | with_reducible rfl | skip)
              · (simp only [Act.put, List.setIfInBounds_toArray, List.set_cons_zero, List.set_cons_succ]; with_reducible rfl)
              refine' inWays_val ?_ ?_ ?_ ?_ ?_
              rotate_left 3
              · rfl
              · (go_simp; first | exact ⟨rfl, rfl⟩ | with_reducible rfl)
              · exact sk_alloc _
              · (simp only [Act.put, List.setIfInBounds_toArray, List.set_cons_zero, List.set_cons_succ]; with_reducible rfl)
              generalize hWa : World.drew (World.alloc w9 _) = Wa
              have HWN : Hid (Wa.ownsRow W2.heap.size 3 1 (.slice a4 i c4) i ((dAt t i).fl.map (.int .i64))) := Lib.hid (by rw [← hWa]; exact HOW.out.alloc _)
              have HNE : Hid (∀ j v, ([Value.int .i64 y.fl] : List Value)[j]? = some v → Wa.cell? ((⟨w9.heap.size, 0, none⟩ : Addr).add j) = some v) := Lib.hid (by rw [← hWa]; exact int_newS w9 y.fl 3)
              have HNa : Hid (NSt x t w W2 B Wa _ _) := Lib.hid (HN.out.below (w' := Wa) (by rw [← hWa]; exact (bl_a (Below.refl _ _) _).drew))
              have HSA : Hid (w9.heap.size ≤ Wa.heap.size ∧ ∀ z, z < w9.heap.size → (Value.slice a4 i c4).ownBlock ≠ some z → Wa.heap[z]? = w9.heap[z]?) := Lib.hid (by rw [← hWa]; exact sk_alloc _)
              clear hWa
              refine inWays_append rfl _ _ 23 rfl W2.heap.size 3 i0 (.int .i64 0) 1 8 Try.underlying23 hi hi1 hi2 hi3 rfl (by decide) _ i ((dAt t i).fl.map (.int .i64)) rfl HWN.out ⟨w9.heap.size, 0, none⟩ 1 1 [.int .i64 y.fl] rfl rfl HNE.out (ow_one rfl) (by decide) (by unfold maxLen; omega) (by omega) (Nat.le_trans hzw HSA.out.1) (fun g4 k4 w3 hown3 hgrow3 hat3 hlt3 => ⟨sk_then HSA.out hgrow3, ?_⟩)
              simp only [Act.put, List.setIfInBounds_toArray, List.set_cons_zero, List.set_cons_succ]
              refine' inWays_val ?_ ?_ ?_ ?_ ?_
              rotate_left 3
              · rfl
              · (go_simp; first | exact ⟨rfl, rfl⟩ | with_reducible rfl)
              · exact sk_then HSA.out hgrow3
              · (simp only [Act.put, List.setIfInBounds_toArray, List.set_cons_zero, List.set_cons_succ]; with_reducible rfl)
              refine inWays_nil (hKK.out _ _ ?_)
              have HM3 := Lib.hid (HNa.out.mid (k := 3) (by decide) hgrow3)
              have HPUT := Lib.hid (HNa.out.put (k := 3) (by decide) hgrow3 (L := (dAt t i).fl ++ [y.fl]) (by rw [List.map_append]; exact hown3) (app_lie hat3))
              clear hown3 hgrow3 hat3 HOW HWN HNE HNa HSA HRD HN hKK
              have q0 := HM3.out.2.2.cell 4
              have q1 := HM3.out.2.2.fr 4
              simp only [worldC, putR, List.getElem?_cons_zero, List.getElem?_cons_succ] at q0
              have hzb3 : B < w3.heap.size := HM3.out.2.2.lt
              simp only [List.length_cons, List.length_nil, Nat.zero_add, Nat.reduceAdd, Nat.reduceSub, List.drop_succ_cons, List.drop_zero]
              go_upto_region 15 with (fail)
              generalize hWn : World.setCell w3 _ _ = w10
              have HN : Hid (NSt x t w W2 B w10 _ _) := Lib.hid (by rw [← hWn]; exact HPUT.out)
              clear hWn HPUT HM3 q0 q1 hzb3 hlt3 hzw
              as_aux_lemma =>
                have HOW : Hid (w10.drew.ownsRow W2.heap.size 3 1 (.slice a5 l5 c5) l5 ((dAt t i).pr.map (.int .i64))) := Lib.hid (HN.out.own 4 (by decide))
                have hzw : W2.heap.size ≤ w10.heap.size := HN.out.hW
                obtain ⟨_, _, hzp, hzi⟩ := HCE.out w10 HN.out.bl
                have HRD : Hid (∀ w' : World, (w10.heap.size ≤ w'.heap.size ∧ ∀ z, z < w10.heap.size → (Value.slice a5 l5 c5).ownBlock ≠ some z → w'.heap[z]? = w10.heap[z]?) →
                    w'.cell? ⟨B, 5, none⟩ = some (.slice a5 l5 c5) ∧ w'.cell? ⟨w.heap.size, 8, none⟩ = some (.slice (some ⟨b, off, none⟩) t.th.length x.c8) ∧ w'.cell? ⟨b, off + i * 9 + 5, none⟩ = some (.slice ra y.pr.length rc) ∧ b < w'.heap.size ∧ B < w'.heap.size) := Lib.hid (fun w' hS => by
                  have hlo : ∀ z, z < W2.heap.size → (Value.slice a5 l5 c5).ownBlock ≠ some z := fun z hz e => by have := ow_lo HOW.out z e; omega
                  have h1 := HN.out.hBF
                  have h2 := HN.out.hB
                  have h3 := HN.out.hW
                  refine ⟨?_, ?_, ?_, by omega, by omega⟩
                  · rw [World.cell?_of_block (a := ⟨B, 5, none⟩) (hS.2 B (by omega) (hlo B (by omega)))]; exact HN.out.bw.cell 5
                  · rw [World.cell?_of_block (a := ⟨w.heap.size, 8, none⟩) (hS.2 w.heap.size (by omega) (hlo _ (by omega))), ← HX8.out]; exact HN.out.bt.cell 8
                  · rw [World.cell?_of_block (a := ⟨b, off + i * 9 + 5, none⟩) (hS.2 b (by omega) (hlo b (by omega)))]; exact hzp)
                obtain ⟨v5, w3, hr5, hown3, hgrow3, hlie3⟩ := app_ints w10.drew W2.heap.size _ l5 _ HOW.out ra rc y.pr hzi (by have := HPy.out.2.2.2; omega) hzw 23
                have hlie4 : v5.ownBlock = (Value.slice a5 l5 c5).ownBlock ∨ ∀ b, v5.ownBlock = some b → w10.drew.heap.size ≤ b := by
                  rcases hlie3 with h | h
                  · exact .inl h
                  · exact .inr (fun b hb => by rw [h] at hb; exact Nat.le_of_eq (Option.some.inj hb))
                obtain ⟨a6, c6, rfl⟩ := ow_shape hown3
                have HNd : Hid (NSt x t w W2 B w10.drew _ _) := Lib.hid (HN.out.below ((Below.refl _ _).drew))
                have HSK : Hid (w10.heap.size ≤ w3.heap.size ∧ ∀ z, z < w10.heap.size → (Value.slice a5 l5 c5).ownBlock ≠ some z → w3.heap[z]? = w10.heap[z]?) := Lib.hid ⟨hgrow3.size, fun z hz hr => hgrow3.block z hz (fun e => hr e.symm)⟩
                have HM3 := Lib.hid (HNd.out.mid (k := 4) (by decide) hgrow3)
                have HPUT := Lib.hid (HNd.out.put (k := 4) (by decide) hgrow3 (L := (dAt t i).pr ++ y.pr) (by rw [List.map_append]; exact hown3) hlie4)
                have HRUN := Lib.hid hr5
                clear hown3 hgrow3 hlie3 hlie4 hr5 HOW HNd HN hzi hzp
                have hiz : (0 : Int) ≤ (i : Int) := by omega
                have hit : (i : Int) < (t.th.length : Int) := by omega
                refine region_last (.rd 0 (.rd 1 (.rd 2 (.rd 3 (.rd 4 (.rd 5 (.rd 6 (.rd 7 (.one 8 (.one 9 .done)))))))))) (fun w' : World => w10.heap.size ≤ w'.heap.size ∧ ∀ z, z < w10.heap.size → (Value.slice a5 l5 c5).ownBlock ≠ some z → w'.heap[z]? = w10.heap[z]?) (by kernel_rfl) (by kernel_rfl) ⟨Nat.le_refl _, fun _ _ _ => rfl⟩ (fun KK hKK => ?_)
                intro OPS
                simp only [Ways.see, List.getElem?_cons_zero, List.getElem?_cons_succ]
                refine' inWays_read ?_ ?_ ?_ ?_
                rotate_left 2
                · rfl
                · (intro w' hS; obtain ⟨r0, r1, r2, r3, r4⟩ := HRD.out w' hS; go_simp; first | with_reducible rfl | skip)
                · (simp only [Act.put, List.setIfInBounds_toArray, List.set_cons_zero, List.set_cons_succ]; with_reducible rfl)
                refine' inWays_read ?_ ?_ ?_ ?_
                rotate_left 2
                · rfl
                · (intro w' hS; obtain ⟨r0, r1, r2, r3, r4⟩ := HRD.out w' hS; go_simp; first | with_reducible rfl | skip)
                · (simp only [Act.put, List.setIfInBounds_toArray, List.set_cons_zero, List.set_cons_succ]; with_reducible rfl)
                refine' inWays_read ?_ ?_ ?_ ?_
                rotate_left 2
                · rfl
                · (intro w' hS; obtain ⟨r0, r1, r2, r3, r4⟩ := HRD.out w' hS; go_simp; first | with_reducible rfl | skip)
                · (simp only [Act.put, List.setIfInBounds_toArray, List.set_cons_zero, List.set_cons_succ]; with_reducible rfl)
                refine' inWays_read ?_ ?_ ?_ ?_
                rotate_left 2
                · rfl
                · (intro w' hS; obtain ⟨r0, r1, r2, r3, r4⟩ := HRD.out w' hS; go_simp; first | with_reducible rfl | skip)
                · (simp only [Act.put, List.setIfInBounds_toArray, List.set_cons_zero, List.set_cons_succ]; with_reducible rfl)
                refine' inWays_read ?_ ?_ ?_ ?_
                rotate_left 2
                · rfl
                · (intro w' hS; obtain ⟨r0, r1, r2, r3, r4⟩ := HRD.out w' hS; go_simp; first | with_reducible rfl | skip)
                · (simp only [Act.put, List.setIfInBounds_toArray, List.set_cons_zero, List.set_cons_succ]; with_reducible rfl)
                refine' inWays_read ?_ ?_ ?_ ?_
                rotate_left 2
                · rfl
                · (intro w' hS; obtain ⟨r0, r1, r2, r3, r4⟩ := HRD.out w' hS; go_simp; first | with_reducible rfl | skip)
                · (simp only [Act.put, List.setIfInBounds_toArray, List.set_cons_zero, List.set_cons_succ]; with_reducible rfl)
                refine' inWays_read ?_ ?_ ?_ ?_
                rotate_left 2
                · rfl
                · (intro w' hS; obtain ⟨r0, r1, r2, r3, r4⟩ := HRD.out w' hS; go_simp; first | with_reducible rfl | skip)
                · (simp only [Act.put, List.setIfInBounds_toArray, List.set_cons_zero, List.set_cons_succ]; with_reducible rfl)
                refine' inWays_read ?_ ?_ ?_ ?_
                rotate_left 2
                · rfl
                · (intro w' hS; obtain ⟨r0, r1, r2, r3, r4⟩ := HRD.out w' hS; go_simp; first | with_reducible rfl | skip)
                · (simp only [Act.put, List.setIfInBounds_toArray, List.set_cons_zero, List.set_cons_succ]; with_reducible rfl)
                refine inWays_val rfl (run_app (.tmp 75) (.tmp 81) 23 rfl rfl rfl HRUN.out) HSK.out rfl ?_
                simp only [Act.put, List.setIfInBounds_toArray, List.set_cons_zero, List.set_cons_succ]
                refine' inWays_val ?_ ?_ ?_ ?_ ?_
                rotate_left 3
                · rfl
                · (go_simp; first | exact ⟨rfl, rfl⟩ | with_reducible rfl)
                · exact HSK.out
                · (simp only [Act.put, List.setIfInBounds_toArray, List.set_cons_zero, List.set_cons_succ]; with_reducible rfl)
                refine inWays_nil (hKK.out _ _ ?_)
                clear hKK HRD HRUN HSK
                have q0 := HM3.out.2.2.cell 5
                have q1 := HM3.out.2.2.fr 5
                simp only [worldC, putR, List.getElem?_cons_zero, List.getElem?_cons_succ] at q0
                have hzb3 : B < w3.heap.size := HM3.out.2.2.lt
                have hpl := HPy.out.2.2.2
                have HFIN : Hid (NSt x t w W2 B (w3.setCell ⟨B, 5, none⟩ (.slice a6 (l5 + y.pr.length) c6)) _ (dAt t (i + 1))) := Lib.hid (by rw [HDA.out]; exact HPUT.out)
                clear HPUT HM3
                simp only [List.length_cons, List.length_nil, Nat.zero_add, Nat.reduceAdd, Nat.reduceSub, List.drop_succ_cons, List.drop_zero]
                go_wp2_with fail
                go_roundw
                case rel => exact ⟨i + 1, l5 + y.pr.length, _, _, _, _, _, _, _, _, _, _, by go_num, by omega, by omega, HFIN⟩
                case measure => simp [intOf]; omega
        · have e1 : (y.pa != 0) = true := by simp [hp0]
          have e2 : (y.pa == 0) = false := by simp [hp0]
          have hcn : afterI (t.th.map (·.pa)) y.pa (t.th.length - (i + 1)) (i + 1) = nxv := by
            have := HNX.out
            rw [if_neg hp0] at this
            exact this.symm
          rw [hcn] at HA2
          clear hcn hp0
          have hwr := HWR.out.1
          have hwr2 := HWR.out.2
          go_wp2_with fail
          refine (HA2.out _ HN.out.bl).mono ?_
          rintro e w6 ⟨rfl, hb6⟩
          clear hwr hwr2
          have HN6 := Lib.hid (HN.out.below hb6)
          clear hb6 HN HTT
          have HN := HN6
          clear HN6
          have HTT := Lib.hid HN.out.bt
          go_upto_region 11 with (fail)
          clear kt0 kt1 kt2 kt3 kt4 kt5 kt6 kt7 kt8 kt9 kt10 kt11 kt12 kt13 kt14 HTT HWR hgt e1 e2
          as_aux_lemma =>
            -- w6: the world; 0: the row; a1, c1: where it lies; y.pa: the number; (dAt t i).pa: the list so far; 12: the next region; w7: the world behind
            have pB := HN.out.bw.cell (0 + 1)
            simp only [worldC, putR, List.getElem?_cons_zero, List.getElem?_cons_succ] at pB
            have HOW : Hid ((w6).ownsRow W2.heap.size 3 1 (.slice a1 i c1) i (((dAt t i).pa).map (.int .i64))) := Lib.hid (HN.out.own 0 (by decide))
            have HWN := Lib.hid (HOW.out.alloc (.cells #[.int .i64 y.pa] 3))
            have HNa := Lib.hid (HN.out.below (bl_a (Below.refl _ _) (.cells #[.int .i64 y.pa] 3)))
            have hzw : W2.heap.size ≤ (w6).heap.size := HN.out.hW
            have hzb : B < (w6).heap.size := HN.out.bw.lt
            go_wp2_with (at_builtin; refine wpList_append_lies _ rfl _ _ 23 rfl W2.heap.size 3 i0 (.int .i64 0) 1 8 Try.underlying23 hi hi1 hi2 hi3 rfl (by decide) _ i (((dAt t i).pa).map (.int .i64)) rfl HWN.out ⟨(w6).heap.size, 0, none⟩ 1 1 [.int .i64 y.pa] rfl rfl (int_newS _ _ _) (ow_one rfl) (by decide) (by unfold maxLen; omega) (by omega) (by simp; omega) _ rfl ?_; intro g1 k1 w3 hown3 hgrow3 hat3 hlt3; refine Hid.out ?_)
            refine Lib.hid ?_
            have HM3 := Lib.hid (HNa.out.mid (k := 0) (by decide) hgrow3)
            have HPUT := Lib.hid (HNa.out.put (k := 0) (by decide) hgrow3 (L := (dAt t i).pa ++ [y.pa]) (by rw [List.map_append]; exact hown3) (app_lie hat3))
            clear pB hown3 hgrow3 hat3 hzb HOW HWN HNa HN
            have q0 := HM3.out.2.2.cell (0 + 1)
            have q1 := HM3.out.2.2.fr (0 + 1)
            simp only [worldC, putR, List.getElem?_cons_zero, List.getElem?_cons_succ] at q0
            have hzb3 : B < w3.heap.size := HM3.out.2.2.lt
            go_upto_region 12 with (fail)
            generalize hWn : World.setCell w3 _ _ = w7
            have HN : Hid (NSt x t w W2 B w7 _ _) := Lib.hid (by rw [← hWn]; exact HPUT.out)
            clear hWn HPUT HM3 q0 q1 hzb3 hlt3 hzw
            -- w7: the world; 1: the row; a2, c2: where it lies; 0: the number; (dAt t i).ch: the list so far; 13: the next region; w8: the world behind
            have pB := HN.out.bw.cell (1 + 1)
            simp only [worldC, putR, List.getElem?_cons_zero, List.getElem?_cons_succ] at pB
            have HOW : Hid ((w7).ownsRow W2.heap.size 3 1 (.slice a2 i c2) i (((dAt t i).ch).map (.int .i64))) := Lib.hid (HN.out.own 1 (by decide))
            have HWN := Lib.hid (HOW.out.alloc (.cells #[.int .i64 0] 3))
            have HNa := Lib.hid (HN.out.below (bl_a (Below.refl _ _) (.cells #[.int .i64 0] 3)))
            have hzw : W2.heap.size ≤ (w7).heap.size := HN.out.hW
            have hzb : B < (w7).heap.size := HN.out.bw.lt
            go_wp2_with (at_builtin; refine wpList_append_lies _ rfl _ _ 23 rfl W2.heap.size 3 i0 (.int .i64 0) 1 8 Try.underlying23 hi hi1 hi2 hi3 rfl (by decide) _ i (((dAt t i).ch).map (.int .i64)) rfl HWN.out ⟨(w7).heap.size, 0, none⟩ 1 1 [.int .i64 0] rfl rfl (int_newS _ _ _) (ow_one rfl) (by decide) (by unfold maxLen; omega) (by omega) (by simp; omega) _ rfl ?_; intro g2 k2 w3 hown3 hgrow3 hat3 hlt3; refine Hid.out ?_)
            refine Lib.hid ?_
            have HM3 := Lib.hid (HNa.out.mid (k := 1) (by decide) hgrow3)
            have HPUT := Lib.hid (HNa.out.put (k := 1) (by decide) hgrow3 (L := (dAt t i).ch ++ [0]) (by rw [List.map_append]; exact hown3) (app_lie hat3))
            clear pB hown3 hgrow3 hat3 hzb HOW HWN HNa HN
            have q0 := HM3.out.2.2.cell (1 + 1)
            have q1 := HM3.out.2.2.fr (1 + 1)
            simp only [worldC, putR, List.getElem?_cons_zero, List.getElem?_cons_succ] at q0
            have hzb3 : B < w3.heap.size := HM3.out.2.2.lt
            go_upto_region 13 with (fail)
            generalize hWn : World.setCell w3 _ _ = w8
            have HN : Hid (NSt x t w W2 B w8 _ _) := Lib.hid (by rw [← hWn]; exact HPUT.out)
            clear hWn HPUT HM3 q0 q1 hzb3 hlt3 hzw
            -- w8: the world; 2: the row; a3, c3: where it lies; nxv: the number; (dAt t i).nx: the list so far; 14: the next region; w9: the world behind
            have pB := HN.out.bw.cell (2 + 1)
            simp only [worldC, putR, List.getElem?_cons_zero, List.getElem?_cons_succ] at pB
            have HOW : Hid ((w8).ownsRow W2.heap.size 3 1 (.slice a3 i c3) i (((dAt t i).nx).map (.int .i64))) := Lib.hid (HN.out.own 2 (by decide))
            have HWN := Lib.hid (HOW.out.alloc (.cells #[.int .i64 nxv] 3))
            have HNa := Lib.hid (HN.out.below (bl_a (Below.refl _ _) (.cells #[.int .i64 nxv] 3)))
            have hzw : W2.heap.size ≤ (w8).heap.size := HN.out.hW
            have hzb : B < (w8).heap.size := HN.out.bw.lt
            go_wp2_with (at_builtin; refine wpList_append_lies _ rfl _ _ 23 rfl W2.heap.size 3 i0 (.int .i64 0) 1 8 Try.underlying23 hi hi1 hi2 hi3 rfl (by decide) _ i (((dAt t i).nx).map (.int .i64)) rfl HWN.out ⟨(w8).heap.size, 0, none⟩ 1 1 [.int .i64 nxv] rfl rfl (int_newS _ _ _) (ow_one rfl) (by decide) (by unfold maxLen; omega) (by omega) (by simp; omega) _ rfl ?_; intro g3 k3 w3 hown3 hgrow3 hat3 hlt3; refine Hid.out ?_)
            refine Lib.hid ?_
            have HM3 := Lib.hid (HNa.out.mid (k := 2) (by decide) hgrow3)
            have HPUT := Lib.hid (HNa.out.put (k := 2) (by decide) hgrow3 (L := (dAt t i).nx ++ [nxv]) (by rw [List.map_append]; exact hown3) (app_lie hat3))
            clear pB hown3 hgrow3 hat3 hzb HOW HWN HNa HN
            have q0 := HM3.out.2.2.cell (2 + 1)
            have q1 := HM3.out.2.2.fr (2 + 1)
            simp only [worldC, putR, List.getElem?_cons_zero, List.getElem?_cons_succ] at q0
            have hzb3 : B < w3.heap.size := HM3.out.2.2.lt
            go_upto_region 14 with (fail)
            generalize hWn : World.setCell w3 _ _ = w9
            have HN : Hid (NSt x t w W2 B w9 _ _) := Lib.hid (by rw [← hWn]; exact HPUT.out)
            clear hWn HPUT HM3 q0 q1 hzb3 hlt3 hzw
            as_aux_lemma =>
              have HOW : Hid (w9.ownsRow W2.heap.size 3 1 (.slice a4 i c4) i ((dAt t i).fl.map (.int .i64))) := Lib.hid (HN.out.own 3 (by decide))
              have hzw : W2.heap.size ≤ w9.heap.size := HN.out.hW
              have HRD : Hid (∀ w' : World, (w9.heap.size ≤ w'.heap.size ∧ ∀ z, z < w9.heap.size → (Value.slice a4 i c4).ownBlock ≠ some z → w'.heap[z]? = w9.heap[z]?) →
                  w'.cell? ⟨B, 4, none⟩ = some (.slice a4 i c4) ∧ w'.cell? ⟨w.heap.size, 8, none⟩ = some (.slice (some ⟨b, off, none⟩) t.th.length x.c8) ∧ w'.cell? ⟨b, off + i * 9 + 3, none⟩ = some (.int .i64 y.fl) ∧ b < w'.heap.size ∧ B < w'.heap.size) := Lib.hid (fun w' hS => by
                have hlo : ∀ z, z < W2.heap.size → (Value.slice a4 i c4).ownBlock ≠ some z := fun z hz e => by have := ow_lo HOW.out z e; omega
                have h1 := HN.out.hBF
                have h2 := HN.out.hB
                have h3 := HN.out.hW
                refine ⟨?_, ?_, ?_, by omega, by omega⟩
                · rw [World.cell?_of_block (a := ⟨B, 4, none⟩) (hS.2 B (by omega) (hlo B (by omega)))]; exact HN.out.bw.cell 4
                · rw [World.cell?_of_block (a := ⟨w.heap.size, 8, none⟩) (hS.2 w.heap.size (by omega) (hlo _ (by omega))), ← HX8.out]; exact HN.out.bt.cell 8
                · rw [World.cell?_of_block (a := ⟨b, off + i * 9 + 3, none⟩) (hS.2 b (by omega) (hlo b (by omega)))]; exact (HCE.out w9 HN.out.bl).2.1)
              have hiz : (0 : Int) ≤ (i : Int) := by omega
              have hit : (i : Int) < (t.th.length : Int) := by omega
              refine region_last (.rd 0 (.rd 1 (.rd 2 (.rd 3 (.rd 4 (.rd 5 (.rd 6 (.rd 7 (.one 8 (.one 9 (.one 10 .done))))))))))) (fun w' : World => w9.heap.size ≤ w'.heap.size ∧ ∀ z, z < w9.heap.size → (Value.slice a4 i c4).ownBlock ≠ some z → w'.heap[z]? = w9.heap[z]?) (by kernel_rfl) (by kernel_rfl) ⟨Nat.le_refl _, fun _ _ _ => rfl⟩ (fun KK hKK => ?_)
              intro OPS
              simp only [Ways.see, List.getElem?_cons_zero, List.getElem?_cons_succ]
              refine' inWays_read ?_ ?_ ?_ ?_
              rotate_left 2
              · rfl
              · (intro w' hS; obtain ⟨r0, r1, r2, r3, r4⟩ := HRD.out w' hS; go_simp; first | with_reducible rfl | skip)
              · (simp only [Act.put, List.setIfInBounds_toArray, List.set_cons_zero, List.set_cons_succ]; with_reducible rfl)
              refine' inWays_read ?_ ?_ ?_ ?_
              rotate_left 2
              · rfl
              · (intro w' hS; obtain ⟨r0, r1, r2, r3, r4⟩ := HRD.out w' hS; go_simp; first | with_reducible rfl | skip)
              · (simp only [Act.put, List.setIfInBounds_toArray, List.set_cons_zero, List.set_cons_succ]; with_reducible rfl)
              refine' inWays_read ?_ ?_ ?_ ?_
              rotate_left 2
              · rfl
              · (intro w' hS; obtain ⟨r0, r1, r2, r3, r4⟩ := HRD.out w' hS; go_simp; first | with_reducible rfl | skip)
              · (simp only [Act.put, List.setIfInBounds_toArray, List.set_cons_zero, List.set_cons_succ]; with_reducible rfl)
              refine' inWays_read ?_ ?_ ?_ ?_
              rotate_left 2
              · rfl
              · (intro w' hS; obtain ⟨r0, r1, r2, r3, r4⟩ := HRD.out w' hS; go_simp; first | with_reducible rfl | skip)
              · (simp only [Act.put, List.setIfInBounds_toArray, List.set_cons_zero, List.set_cons_succ]; with_reducible rfl)
              refine' inWays_read ?_ ?_ ?_ ?_
              rotate_left 2
              · rfl
              · (intro w' hS; obtain ⟨r0, r1, r2, r3, r4⟩ := HRD.out w' hS; go_simp; first | with_reducible rfl | skip)
              · (simp only [Act.put, List.setIfInBounds_toArray, List.set_cons_zero, List.set_cons_succ]; with_reducible rfl)
              refine' inWays_read ?_ ?_ ?_ ?_
              rotate_left 2
              · rfl
              · (intro w' hS; obtain ⟨r0, r1, r2, r3, r4⟩ := HRD.out w' hS; go_simp; first | with_reducible rfl | skip)
              · (simp only [Act.put, List.setIfInBounds_toArray, List.set_cons_zero, List.set_cons_succ]; with_reducible rfl)
              refine' inWays_read ?_ ?_ ?_ ?_
              rotate_left 2
              · rfl
              · (intro w' hS; obtain ⟨r0, r1, r2, r3, r4⟩ := HRD.out w' hS; go_simp; first | with_reducible rfl | skip)
              · (simp only [Act.put, List.setIfInBounds_toArray, List.set_cons_zero, List.set_cons_succ]; with_reducible rfl)
              refine' inWays_read ?_ ?_ ?_ ?_
              rotate_left 2
              · rfl
              · (intro w' hS; obtain ⟨r0, r1, r2, r3, r4⟩ := HRD.out w' hS; go_simp; first | with_reducible rfl | skip)
              · (simp only [Act.put, List.setIfInBounds_toArray, List.set_cons_zero, List.set_cons_succ]; with_reducible rfl)
              refine' inWays_val ?_ ?_ ?_ ?_ ?_
              rotate_left 3
              · rfl
              · (go_simp; first | exact ⟨rfl, rfl⟩ | with_reducible rfl)
              · exact sk_alloc _
              · (simp only [Act.put, List.setIfInBounds_toArray, List.set_cons_zero, List.set_cons_succ]; with_reducible rfl)
              generalize hWa : World.drew (World.alloc w9 _) = Wa
              have HWN : Hid (Wa.ownsRow W2.heap.size 3 1 (.slice a4 i c4) i ((dAt t i).fl.map (.int .i64))) := Lib.hid (by rw [← hWa]; exact HOW.out.alloc _)
              have HNE : Hid (∀ j v, ([Value.int .i64 y.fl] : List Value)[j]? = some v → Wa.cell? ((⟨w9.heap.size, 0, none⟩ : Addr).add j) = some v) := Lib.hid (by rw [← hWa]; exact int_newS w9 y.fl 3)
              have HNa : Hid (NSt x t w W2 B Wa _ _) := Lib.hid (HN.out.below (w' := Wa) (by rw [← hWa]; exact (bl_a (Below.refl _ _) _).drew))
              have HSA : Hid (w9.heap.size ≤ Wa.heap.size ∧ ∀ z, z < w9.heap.size → (Value.slice a4 i c4).ownBlock ≠ some z → Wa.heap[z]? = w9.heap[z]?) := Lib.hid (by rw [← hWa]; exact sk_alloc _)
              clear hWa
              refine inWays_append rfl _ _ 23 rfl W2.heap.size 3 i0 (.int .i64 0) 1 8 Try.underlying23 hi hi1 hi2 hi3 rfl (by decide) _ i ((dAt t i).fl.map (.int .i64)) rfl HWN.out ⟨w9.heap.size, 0, none⟩ 1 1 [.int .i64 y.fl] rfl rfl HNE.out (ow_one rfl) (by decide) (by unfold maxLen; omega) (by omega) (Nat.le_trans hzw HSA.out.1) (fun g4 k4 w3 hown3 hgrow3 hat3 hlt3 => ⟨sk_then HSA.out hgrow3, ?_⟩)
              simp only [Act.put, List.setIfInBounds_toArray, List.set_cons_zero, List.set_cons_succ]
              refine' inWays_val ?_ ?_ ?_ ?_ ?_
              rotate_left 3
              · rfl
              · (go_simp; first | exact ⟨rfl, rfl⟩ | with_reducible rfl)
              · exact sk_then HSA.out hgrow3
              · (simp only [Act.put, List.setIfInBounds_toArray, List.set_cons_zero, List.set_cons_succ]; with_reducible rfl)
              refine inWays_nil (hKK.out _ _ ?_)
              have HM3 := Lib.hid (HNa.out.mid (k := 3) (by decide) hgrow3)
              have HPUT := Lib.hid (HNa.out.put (k := 3) (by decide) hgrow3 (L := (dAt t i).fl ++ [y.fl]) (by rw [List.map_append]; exact hown3) (app_lie hat3))
              clear hown3 hgrow3 hat3 HOW HWN HNE HNa HSA HRD HN hKK
              have q0 := HM3.out.2.2.cell 4
              have q1 := HM3.out.2.2.fr 4
              simp only [worldC, putR, List.getElem?_cons_zero, List.getElem?_cons_succ] at q0
              have hzb3 : B < w3.heap.size := HM3.out.2.2.lt
              simp only [List.length_cons, List.length_nil, Nat.zero_add, Nat.reduceAdd, Nat.reduceSub, List.drop_succ_cons, List.drop_zero]
              go_upto_region 15 with (fail)
              generalize hWn : World.setCell w3 _ _ = w10
              have HN : Hid (NSt x t w W2 B w10 _ _) := Lib.hid (by rw [← hWn]; exact HPUT.out)
              clear hWn HPUT HM3 q0 q1 hzb3 hlt3 hzw
              as_aux_lemma =>
                have HOW : Hid (w10.drew.ownsRow W2.heap.size 3 1 (.slice a5 l5 c5) l5 ((dAt t i).pr.map (.int .i64))) := Lib.hid (HN.out.own 4 (by decide))
                have hzw : W2.heap.size ≤ w10.heap.size := HN.out.hW
                obtain ⟨_, _, hzp, hzi⟩ := HCE.out w10 HN.out.bl
                have HRD : Hid (∀ w' : World, (w10.heap.size ≤ w'.heap.size ∧ ∀ z, z < w10.heap.size → (Value.slice a5 l5 c5).ownBlock ≠ some z → w'.heap[z]? = w10.heap[z]?) →
                    w'.cell? ⟨B, 5, none⟩ = some (.slice a5 l5 c5) ∧ w'.cell? ⟨w.heap.size, 8, none⟩ = some (.slice (some ⟨b, off, none⟩) t.th.length x.c8) ∧ w'.cell? ⟨b, off + i * 9 + 5, none⟩ = some (.slice ra y.pr.length rc) ∧ b < w'.heap.size ∧ B < w'.heap.size) := Lib.hid (fun w' hS => by
                  have hlo : ∀ z, z < W2.heap.size → (Value.slice a5 l5 c5).ownBlock ≠ some z := fun z hz e => by have := ow_lo HOW.out z e; omega
                  have h1 := HN.out.hBF
                  have h2 := HN.out.hB
                  have h3 := HN.out.hW
                  refine ⟨?_, ?_, ?_, by omega, by omega⟩
                  · rw [World.cell?_of_block (a := ⟨B, 5, none⟩) (hS.2 B (by omega) (hlo B (by omega)))]; exact HN.out.bw.cell 5
                  · rw [World.cell?_of_block (a := ⟨w.heap.size, 8, none⟩) (hS.2 w.heap.size (by omega) (hlo _ (by omega))), ← HX8.out]; exact HN.out.bt.cell 8
                  · rw [World.cell?_of_block (a := ⟨b, off + i * 9 + 5, none⟩) (hS.2 b (by omega) (hlo b (by omega)))]; exact hzp)
                obtain ⟨v5, w3, hr5, hown3, hgrow3, hlie3⟩ := app_ints w10.drew W2.heap.size _ l5 _ HOW.out ra rc y.pr hzi (by have := HPy.out.2.2.2; omega) hzw 23
                have hlie4 : v5.ownBlock = (Value.slice a5 l5 c5).ownBlock ∨ ∀ b, v5.ownBlock = some b → w10.drew.heap.size ≤ b := by
                  rcases hlie3 with h | h
                  · exact .inl h
                  · exact .inr (fun b hb => by rw [h] at hb; exact Nat.le_of_eq (Option.some.inj hb))
                obtain ⟨a6, c6, rfl⟩ := ow_shape hown3
                have HNd : Hid (NSt x t w W2 B w10.drew _ _) := Lib.hid (HN.out.below ((Below.refl _ _).drew))
                have HSK : Hid (w10.heap.size ≤ w3.heap.size ∧ ∀ z, z < w10.heap.size → (Value.slice a5 l5 c5).ownBlock ≠ some z → w3.heap[z]? = w10.heap[z]?) := Lib.hid ⟨hgrow3.size, fun z hz hr => hgrow3.block z hz (fun e => hr e.symm)⟩
                have HM3 := Lib.hid (HNd.out.mid (k := 4) (by decide) hgrow3)
                have HPUT := Lib.hid (HNd.out.put (k := 4) (by decide) hgrow3 (L := (dAt t i).pr ++ y.pr) (by rw [List.map_append]; exact hown3) hlie4)
                have HRUN := Lib.hid hr5
                clear hown3 hgrow3 hlie3 hlie4 hr5 HOW HNd HN hzi hzp
                have hiz : (0 : Int) ≤ (i : Int) := by omega
                have hit : (i : Int) < (t.th.length : Int) := by omega
                refine region_last (.rd 0 (.rd 1 (.rd 2 (.rd 3 (.rd 4 (.rd 5 (.rd 6 (.rd 7 (.one 8 (.one 9 .done)))))))))) (fun w' : World => w10.heap.size ≤ w'.heap.size ∧ ∀ z, z < w10.heap.size → (Value.slice a5 l5 c5).ownBlock ≠ some z → w'.heap[z]? = w10.heap[z]?) (by kernel_rfl) (by kernel_rfl) ⟨Nat.le_refl _, fun _ _ _ => rfl⟩ (fun KK hKK => ?_)
                intro OPS
                simp only [Ways.see, List.getElem?_cons_zero, List.getElem?_cons_succ]
                refine' inWays_read ?_ ?_ ?_ ?_
                rotate_left 2
                · rfl
                · (intro w' hS; obtain ⟨r0, r1, r2, r3, r4⟩ := HRD.out w' hS; go_simp; first | with_reducible rfl | skip)
                · (simp only [Act.put, List.setIfInBounds_toArray, List.set_cons_zero, List.set_cons_succ]; with_reducible rfl)
                refine' inWays_read ?_ ?_ ?_ ?_
                rotate_left 2
                · rfl
                · (intro w' hS; obtain ⟨r0, r1, r2, r3, r4⟩ := HRD.out w' hS; go_simp; first | with_reducible rfl | skip)
                · (simp only [Act.put, List.setIfInBounds_toArray, List.set_cons_zero, List.set_cons_succ]; with_reducible rfl)
                refine' inWays_read ?_ ?_ ?_ ?_
                rotate_left 2
                · rfl
                · (intro w' hS; obtain ⟨r0, r1, r2, r3, r4⟩ := HRD.out w' hS; go_simp; first | with_reducible rfl | skip)
                · (simp only [Act.put, List.setIfInBounds_toArray, List.set_cons_zero, List.set_cons_succ]; with_reducible rfl)
                refine' inWays_read ?_ ?_ ?_ ?_
                rotate_left 2
                · rfl
                · (intro w' hS; obtain ⟨r0, r1, r2, r3, r4⟩ := HRD.out w' hS; go_simp; first | with_reducible rfl | skip)
                · (simp only [Act.put, List.setIfInBounds_toArray, List.set_cons_zero, List.set_cons_succ]; with_reducible rfl)
                refine' inWays_read ?_ ?_ ?_ ?_
                rotate_left 2
                · rfl
                · (intro w' hS; obtain ⟨r0, r1, r2, r3, r4⟩ := HRD.out w' hS; go_simp; first | with_reducible rfl | skip)
                · (simp only [Act.put, List.setIfInBounds_toArray, List.set_cons_zero, List.set_cons_succ]; with_reducible rfl)
                refine' inWays_read ?_ ?_ ?_ ?_
                rotate_left 2
                · rfl
                · (intro w' hS; obtain ⟨r0, r1, r2, r3, r4⟩ := HRD.out w' hS; go_simp; first | with_reducible rfl | skip)
                · (simp only [Act.put, List.setIfInBounds_toArray, List.set_cons_zero, List.set_cons_succ]; with_reducible rfl)
                refine' inWays_read ?_ ?_ ?_ ?_
                rotate_left 2
                · rfl
                · (intro w' hS; obtain ⟨r0, r1, r2, r3, r4⟩ := HRD.out w' hS; go_simp; first | with_reducible rfl | skip)
                · (simp only [Act.put, List.setIfInBounds_toArray, List.set_cons_zero, List.set_cons_succ]; with_reducible rfl)
                refine' inWays_read ?_ ?_ ?_ ?_
                rotate_left 2
                · rfl
                · (intro w' hS; obtain ⟨r0, r1, r2, r3, r4⟩ := HRD.out w' hS; go_simp; first | with_reducible rfl | skip)
                · (simp only [Act.put, List.setIfInBounds_toArray, List.set_cons_zero, List.set_cons_succ]; with_reducible rfl)
                refine inWays_val rfl (run_app (.tmp 75) (.tmp 81) 23 rfl rfl rfl HRUN.out) HSK.out rfl ?_
                simp only [Act.put, List.setIfInBounds_toArray, List.set_cons_zero, List.set_cons_succ]
                refine' inWays_val ?_ ?_ ?_ ?_ ?_
                rotate_left 3
                · rfl
                · (go_simp; first | exact ⟨rfl, rfl⟩ | with_reducible rfl)
                · exact HSK.out
                · (simp only [Act.put, List.setIfInBounds_toArray, List.set_cons_zero, List.set_cons_succ]; with_reducible rfl)
                refine inWays_nil (hKK.out _ _ ?_)
                clear hKK HRD HRUN HSK
                have q0 := HM3.out.2.2.cell 5
                have q1 := HM3.out.2.2.fr 5
                simp only [worldC, putR, List.getElem?_cons_zero, List.getElem?_cons_succ] at q0
                have hzb3 : B < w3.heap.size := HM3.out.2.2.lt
                have hpl := HPy.out.2.2.2
                have HFIN : Hid (NSt x t w W2 B (w3.setCell ⟨B, 5, none⟩ (.slice a6 (l5 + y.pr.length) c6)) _ (dAt t (i + 1))) := Lib.hid (by rw [HDA.out]; exact HPUT.out)
                clear HPUT HM3
                simp only [List.length_cons, List.length_nil, Nat.zero_add, Nat.reduceAdd, Nat.reduceSub, List.drop_succ_cons, List.drop_zero]
                go_wp2_with fail
                go_roundw
                case rel => exact ⟨i + 1, l5 + y.pr.length, _, _, _, _, _, _, _, _, _, _, by go_num, by omega, by omega, HFIN⟩
                case measure => simp [intOf]; omega
      · have hgt : (0 : Int) < (i : Int) := by omega
        have hgtN : 0 < i := by omega
        have hcv : afterI (t.th.map (·.pa)) i (t.th.length - 1) 1 = chv := by
          have := HCH.out
          rw [if_neg hi0] at this
          exact this.symm
        rw [hcv, show (((1 : Nat)) : Int) = 1 from rfl] at HA1
        clear hcv hi0
        go_wp2_with fail
        refine (HA1.out _ HN.out.bl).mono ?_
        rintro e w5 ⟨rfl, hb5⟩
        have HN5 := Lib.hid (HN.out.below hb5)
        clear hb5 HN kt0 kt1 kt2 kt3 kt4 kt5 kt6 kt7 kt8 kt9 kt10 kt11 kt12 kt13 kt14 HTT z2 z3 z5
        have HN := HN5
        clear HN5
        have HTT := Lib.hid HN.out.bt
        have kt0 := HTT.out.cell 0
        have kt1 := HTT.out.cell 1
        have kt2 := HTT.out.cell 2
        have kt3 := HTT.out.cell 3
        have kt4 := HTT.out.cell 4
        have kt5 := HTT.out.cell 5
        have kt6 := HTT.out.cell 6
        have kt7 := HTT.out.cell 7
        have kt8 := HTT.out.cell 8
        have kt9 := HTT.out.cell 9
        have kt10 := HTT.out.cell 10
        have kt11 := HTT.out.cell 11
        have kt12 := HTT.out.cell 12
        have kt13 := HTT.out.cell 13
        have kt14 := HTT.out.cell 14
        simp only [tabC, List.getElem?_cons_zero, List.getElem?_cons_succ] at kt0 kt1 kt2 kt3 kt4 kt5 kt6 kt7 kt8 kt9 kt10 kt11 kt12 kt13 kt14
        rw [HX8.out] at kt8
        have hzs5 : w.heap.size < w5.heap.size := HTT.out.lt
        by_cases hp0 : y.pa = 0
        · have hnv : nxv = 0 := by rw [HNX.out, if_pos hp0]
          have e1 : (y.pa != 0) = false := by simp [hp0]
          have e2 : (y.pa == 0) = true := by simp [hp0]
          subst hnv
          clear hp0
          go_upto_region 11 with (fail)
          clear kt0 kt1 kt2 kt3 kt4 kt5 kt6 kt7 kt8 kt9 kt10 kt11 kt12 kt13 kt14 HTT HWR hgt e1 e2
          as_aux_lemma =>
            -- w5: the world; 0: the row; a1, c1: where it lies; y.pa: the number; (dAt t i).pa: the list so far; 12: the next region; w7: the world behind
            have pB := HN.out.bw.cell (0 + 1)
            simp only [worldC, putR, List.getElem?_cons_zero, List.getElem?_cons_succ] at pB
            have HOW : Hid ((w5).ownsRow W2.heap.size 3 1 (.slice a1 i c1) i (((dAt t i).pa).map (.int .i64))) := Lib.hid (HN.out.own 0 (by decide))
            have HWN := Lib.hid (HOW.out.alloc (.cells #[.int .i64 y.pa] 3))
            have HNa := Lib.hid (HN.out.below (bl_a (Below.refl _ _) (.cells #[.int .i64 y.pa] 3)))
            have hzw : W2.heap.size ≤ (w5).heap.size := HN.out.hW
            have hzb : B < (w5).heap.size := HN.out.bw.lt
            go_wp2_with (at_builtin; refine wpList_append_lies _ rfl _ _ 23 rfl W2.heap.size 3 i0 (.int .i64 0) 1 8 Try.underlying23 hi hi1 hi2 hi3 rfl (by decide) _ i (((dAt t i).pa).map (.int .i64)) rfl HWN.out ⟨(w5).heap.size, 0, none⟩ 1 1 [.int .i64 y.pa] rfl rfl (int_newS _ _ _) (ow_one rfl) (by decide) (by unfold maxLen; omega) (by omega) (by simp; omega) _ rfl ?_; intro g1 k1 w3 hown3 hgrow3 hat3 hlt3; refine Hid.out ?_)
            refine Lib.hid ?_
            have HM3 := Lib.hid (HNa.out.mid (k := 0) (by decide) hgrow3)
            have HPUT := Lib.hid (HNa.out.put (k := 0) (by decide) hgrow3 (L := (dAt t i).pa ++ [y.pa]) (by rw [List.map_append]; exact hown3) (app_lie hat3))
            clear pB hown3 hgrow3 hat3 hzb HOW HWN HNa HN
            have q0 := HM3.out.2.2.cell (0 + 1)
            have q1 := HM3.out.2.2.fr (0 + 1)
            simp only [worldC, putR, List.getElem?_cons_zero, List.getElem?_cons_succ] at q0
            have hzb3 : B < w3.heap.size := HM3.out.2.2.lt
            go_upto_region 12 with (fail)
            generalize hWn : World.setCell w3 _ _ = w7
            have HN : Hid (NSt x t w W2 B w7 _ _) := Lib.hid (by rw [← hWn]; exact HPUT.out)
            clear hWn HPUT HM3 q0 q1 hzb3 hlt3 hzw
            -- w7: the world; 1: the row; a2, c2: where it lies; chv: the number; (dAt t i).ch: the list so far; 13: the next region; w8: the world behind
            have pB := HN.out.bw.cell (1 + 1)
            simp only [worldC, putR, List.getElem?_cons_zero, List.getElem?_cons_succ] at pB
            have HOW : Hid ((w7).ownsRow W2.heap.size 3 1 (.slice a2 i c2) i (((dAt t i).ch).map (.int .i64))) := Lib.hid (HN.out.own 1 (by decide))
            have HWN := Lib.hid (HOW.out.alloc (.cells #[.int .i64 chv] 3))
            have HNa := Lib.hid (HN.out.below (bl_a (Below.refl _ _) (.cells #[.int .i64 chv] 3)))
            have hzw : W2.heap.size ≤ (w7).heap.size := HN.out.hW
            have hzb : B < (w7).heap.size := HN.out.bw.lt
            go_wp2_with (at_builtin; refine wpList_append_lies _ rfl _ _ 23 rfl W2.heap.size 3 i0 (.int .i64 0) 1 8 Try.underlying23 hi hi1 hi2 hi3 rfl (by decide) _ i (((dAt t i).ch).map (.int .i64)) rfl HWN.out ⟨(w7).heap.size, 0, none⟩ 1 1 [.int .i64 chv] rfl rfl (int_newS _ _ _) (ow_one rfl) (by decide) (by unfold maxLen; omega) (by omega) (by simp; omega) _ rfl ?_; intro g2 k2 w3 hown3 hgrow3 hat3 hlt3; refine Hid.out ?_)
            refine Lib.hid ?_
            have HM3 := Lib.hid (HNa.out.mid (k := 1) (by decide) hgrow3)
            have HPUT := Lib.hid (HNa.out.put (k := 1) (by decide) hgrow3 (L := (dAt t i).ch ++ [chv]) (by rw [List.map_append]; exact hown3) (app_lie hat3))
            clear pB hown3 hgrow3 hat3 hzb HOW HWN HNa HN
            have q0 := HM3.out.2.2.cell (1 + 1)
            have q1 := HM3.out.2.2.fr (1 + 1)
            simp only [worldC, putR, List.getElem?_cons_zero, List.getElem?_cons_succ] at q0
            have hzb3 : B < w3.heap.size := HM3.out.2.2.lt
            go_upto_region 13 with (fail)
            generalize hWn : World.setCell w3 _ _ = w8
            have HN : Hid (NSt x t w W2 B w8 _ _) := Lib.hid (by rw [← hWn]; exact HPUT.out)
            clear hWn HPUT HM3 q0 q1 hzb3 hlt3 hzw
            -- w8: the world; 2: the row; a3, c3: where it lies; 0: the number; (dAt t i).nx: the list so far; 14: the next region; w9: the world behind
            have pB := HN.out.bw.cell (2 + 1)
            simp only [worldC, putR, List.getElem?_cons_zero, List.getElem?_cons_succ] at pB
            have HOW : Hid ((w8).ownsRow W2.heap.size 3 1 (.slice a3 i c3) i (((dAt t i).nx).map (.int .i64))) := Lib.hid (HN.out.own 2 (by decide))
            have HWN := Lib.hid (HOW.out.alloc (.cells #[.int .i64 0] 3))
            have HNa := Lib.hid (HN.out.below (bl_a (Below.refl _ _) (.cells #[.int .i64 0] 3)))
            have hzw : W2.heap.size ≤ (w8).heap.size := HN.out.hW
            have hzb : B < (w8).heap.size := HN.out.bw.lt
            go_wp2_with (at_builtin; refine wpList_append_lies _ rfl _ _ 23 rfl W2.heap.size 3 i0 (.int .i64 0) 1 8 Try.underlying23 hi hi1 hi2 hi3 rfl (by decide) _ i (((dAt t i).nx).map (.int .i64)) rfl HWN.out ⟨(w8).heap.size, 0, none⟩ 1 1 [.int .i64 0] rfl rfl (int_newS _ _ _) (ow_one rfl) (by decide) (by unfold maxLen; omega) (by omega) (by simp; omega) _ rfl ?_; intro g3 k3 w3 hown3 hgrow3 hat3 hlt3; refine Hid.out ?_)
            refine Lib.hid ?_
            have HM3 := Lib.hid (HNa.out.mid (k := 2) (by decide) hgrow3)
            have HPUT := Lib.hid (HNa.out.put (k := 2) (by decide) hgrow3 (L := (dAt t i).nx ++ [0]) (by rw [List.map_append]; exact hown3) (app_lie hat3))
            clear pB hown3 hgrow3 hat3 hzb HOW HWN HNa HN
            have q0 := HM3.out.2.2.cell (2 + 1)
            have q1 := HM3.out.2.2.fr (2 + 1)
            simp only [worldC, putR, List.getElem?_cons_zero, List.getElem?_cons_succ] at q0
            have hzb3 : B < w3.heap.size := HM3.out.2.2.lt
            go_upto_region 14 with (fail)
            generalize hWn : World.setCell w3 _ _ = w9
            have HN : Hid (NSt x t w W2 B w9 _ _) := Lib.hid (by rw [← hWn]; exact HPUT.out)
            clear hWn HPUT HM3 q0 q1 hzb3 hlt3 hzw
            as_aux_lemma =>
              have HOW : Hid (w9.ownsRow W2.heap.size 3 1 (.slice a4 i c4) i ((dAt t i).fl.map (.int .i64))) := Lib.hid (HN.out.own 3 (by decide))
              have hzw : W2.heap.size ≤ w9.heap.size := HN.out.hW
              have HRD : Hid (∀ w' : World, (w9.heap.size ≤ w'.heap.size ∧ ∀ z, z < w9.heap.size → (Value.slice a4 i c4).ownBlock ≠ some z → w'.heap[z]? = w9.heap[z]?) →
                  w'.cell? ⟨B, 4, none⟩ = some (.slice a4 i c4) ∧ w'.cell? ⟨w.heap.size, 8, none⟩ = some (.slice (some ⟨b, off, none⟩) t.th.length x.c8) ∧ w'.cell? ⟨b, off + i * 9 + 3, none⟩ = some (.int .i64 y.fl) ∧ b < w'.heap.size ∧ B < w'.heap.size) := Lib.hid (fun w' hS => by
                have hlo : ∀ z, z < W2.heap.size → (Value.slice a4 i c4).ownBlock ≠ some z := fun z hz e => by have := ow_lo HOW.out z e; omega
                have h1 := HN.out.hBF
                have h2 := HN.out.hB
                have h3 := HN.out.hW
                refine ⟨?_, ?_, ?_, by omega, by omega⟩
                · rw [World.cell?_of_block (a := ⟨B, 4, none⟩) (hS.2 B (by omega) (hlo B (by omega)))]; exact HN.out.bw.cell 4
                · rw [World.cell?_of_block (a := ⟨w.heap.size, 8, none⟩) (hS.2 w.heap.size (by omega) (hlo _ (by omega))), ← HX8.out]; exact HN.out.bt.cell 8
                · rw [World.cell?_of_block (a := ⟨b, off + i * 9 + 3, none⟩) (hS.2 b (by omega) (hlo b (by omega)))]; exact (HCE.out w9 HN.out.bl).2.1)
              have hiz : (0 : Int) ≤ (i : Int) := by omega
              have hit : (i : Int) < (t.th.length : Int) := by omega
              refine region_last (.rd 0 (.rd 1 (.rd 2 (.rd 3 (.rd 4 (.rd 5 (.rd 6 (.rd 7 (.one 8 (.one 9 (.one 10 .done))))))))))) (fun w' : World => w9.heap.size ≤ w'.heap.size ∧ ∀ z, z < w9.heap.size → (Value.slice a4 i c4).ownBlock ≠ some z → w'.heap[z]? = w9.heap[z]?) (by kernel_rfl) (by kernel_rfl) ⟨Nat.le_refl _, fun _ _ _ => rfl⟩ (fun KK hKK => ?_)
              intro OPS
              simp only [Ways.see, List.getElem?_cons_zero, List.getElem?_cons_succ]
              refine' inWays_read ?_ ?_ ?_ ?_
              rotate_left 2
              · rfl
              · (intro w' hS; obtain ⟨r0, r1, r2, r3, r4⟩ := HRD.out w' hS; go_simp; first | with_reducible rfl | skip)
              · (simp only [Act.put, List.setIfInBounds_toArray, List.set_cons_zero, List.set_cons_succ]; with_reducible rfl)
              refine' inWays_read ?_ ?_ ?_ ?_
              rotate_left 2
              · rfl
              · (intro w' hS; obtain ⟨r0, r1, r2, r3, r4⟩ := HRD.out w' hS; go_simp; first | with_reducible rfl | skip)
              · (simp only [Act.put, List.setIfInBounds_toArray, List.set_cons_zero, List.set_cons_succ]; with_reducible rfl)
              refine' inWays_read ?_ ?_ ?_ ?_
              rotate_left 2
              · rfl
              · (intro w' hS; obtain ⟨r0, r1, r2, r3, r4⟩ := HRD.out w' hS; go_simp; first | with_reducible rfl | skip)
              · (simp only [Act.put, List.setIfInBounds_toArray, List.set_cons_zero, List.set_cons_succ]; with_reducible rfl)
              refine' inWays_read ?_ ?_ ?_ ?_
              rotate_left 2
              · rfl
              · (intro w' hS; obtain ⟨r0, r1, r2, r3, r4⟩ := HRD.out w' hS; go_simp; first | with_reducible rfl | skip)
              · (simp only [Act.put, List.setIfInBounds_toArray, List.set_cons_zero, List.set_cons_succ]; with_reducible rfl)
              refine' inWays_read ?_ ?_ ?_ ?_
              rotate_left 2
              · rfl
              · (intro w' hS; obtain ⟨r0, r1, r2, r3, r4⟩ := HRD.out w' hS; go_simp; first | with_reducible rfl | skip)
              · (simp only [Act.put, List.setIfInBounds_toArray, List.set_cons_zero, List.set_cons_succ]; with_reducible rfl)
              refine' inWays_read ?_ ?_ ?_ ?_
              rotate_left 2
              · rfl
              · (intro w' hS; obtain ⟨r0, r1, r2, r3, r4⟩ := HRD.out w' hS; go_simp; first | with_reducible rfl | skip)
              · (simp only [Act.put, List.setIfInBounds_toArray, List.set_cons_zero, List.set_cons_succ]; with_reducible rfl)
              refine' inWays_read ?_ ?_ ?_ ?_
              rotate_left 2
              · rfl
              · (intro w' hS; obtain ⟨r0, r1, r2, r3, r4⟩ := HRD.out w' hS; go_simp; first | with_reducible rfl | skip)
              · (simp only [Act.put, List.setIfInBounds_toArray, List.set_cons_zero, List.set_cons_succ]; with_reducible rfl)
              refine' inWays_read ?_ ?_ ?_ ?_
              rotate_left 2
              · rfl
              · (intro w' hS; obtain ⟨r0, r1, r2, r3, r4⟩ := HRD.out w' hS; go_simp; first | with_reducible rfl | skip)
              · (simp only [Act.put, List.setIfInBounds_toArray, List.set_cons_zero, List.set_cons_succ]; with_reducible rfl)
              refine' inWays_val ?_ ?_ ?_ ?_ ?_
              rotate_left 3
              · rfl
              · (go_simp; first | exact ⟨rfl, rfl⟩ | with_reducible rfl)
              · exact sk_alloc _
              · (simp only [Act.put, List.setIfInBounds_toArray, List.set_cons_zero, List.set_cons_succ]; with_reducible rfl)
              generalize hWa : World.drew (World.alloc w9 _) = Wa
              have HWN : Hid (Wa.ownsRow W2.heap.size 3 1 (.slice a4 i c4) i ((dAt t i).fl.map (.int .i64))) := Lib.hid (by rw [← hWa]; exact HOW.out.alloc _)
              have HNE : Hid (∀ j v, ([Value.int .i64 y.fl] : List Value)[j]? = some v → Wa.cell? ((⟨w9.heap.size, 0, none⟩ : Addr).add j) = some v) := Lib.hid (by rw [← hWa]; exact int_newS w9 y.fl 3)
              have HNa : Hid (NSt x t w W2 B Wa _ _) := Lib.hid (HN.out.below (w' := Wa) (by rw [← hWa]; exact (bl_a (Below.refl _ _) _).drew))
              have HSA : Hid (w9.heap.size ≤ Wa.heap.size ∧ ∀ z, z < w9.heap.size → (Value.slice a4 i c4).ownBlock ≠ some z → Wa.heap[z]? = w9.heap[z]?) := Lib.hid (by rw [← hWa]; exact sk_alloc _)
              clear hWa
              refine inWays_append rfl _ _ 23 rfl W2.heap.size 3 i0 (.int .i64 0) 1 8 Try.underlying23 hi hi1 hi2 hi3 rfl (by decide) _ i ((dAt t i).fl.map (.int .i64)) rfl HWN.out ⟨w9.heap.size, 0, none⟩ 1 1 [.int .i64 y.fl] rfl rfl HNE.out (ow_one rfl) (by decide) (by unfold maxLen; omega) (by omega) (Nat.le_trans hzw HSA.out.1) (fun g4 k4 w3 hown3 hgrow3 hat3 hlt3 => ⟨sk_then HSA.out hgrow3, ?_⟩)
              simp only [Act.put, List.setIfInBounds_toArray, List.set_cons_zero, List.set_cons_succ]
              refine' inWays_val ?_ ?_ ?_ ?_ ?_
              rotate_left 3
              · rfl
              · (go_simp; first | exact ⟨rfl, rfl⟩ | with_reducible rfl)
              · exact sk_then HSA.out hgrow3
              · (simp only [Act.put, List.setIfInBounds_toArray, List.set_cons_zero, List.set_cons_succ]; with_reducible rfl)
              refine inWays_nil (hKK.out _ _ ?_)
              have HM3 := Lib.hid (HNa.out.mid (k := 3) (by decide) hgrow3)
              have HPUT := Lib.hid (HNa.out.put (k := 3) (by decide) hgrow3 (L := (dAt t i).fl ++ [y.fl]) (by rw [List.map_append]; exact hown3) (app_lie hat3))
              clear hown3 hgrow3 hat3 HOW HWN HNE HNa HSA HRD HN hKK
              have q0 := HM3.out.2.2.cell 4
              have q1 := HM3.out.2.2.fr 4
              simp only [worldC, putR, List.getElem?_cons_zero, List.getElem?_cons_succ] at q0
              have hzb3 : B < w3.heap.size := HM3.out.2.2.lt
              simp only [List.length_cons, List.length_nil, Nat.zero_add, Nat.reduceAdd, Nat.reduceSub, List.drop_succ_cons, List.drop_zero]
              go_upto_region 15 with (fail)
              generalize hWn : World.setCell w3 _ _ = w10
              have HN : Hid (NSt x t w W2 B w10 _ _) := Lib.hid (by rw [← hWn]; exact HPUT.out)
              clear hWn HPUT HM3 q0 q1 hzb3 hlt3 hzw
              as_aux_lemma =>
                have HOW : Hid (w10.drew.ownsRow W2.heap.size 3 1 (.slice a5 l5 c5) l5 ((dAt t i).pr.map (.int .i64))) := Lib.hid (HN.out.own 4 (by decide))
                have hzw : W2.heap.size ≤ w10.heap.size := HN.out.hW
                obtain ⟨_, _, hzp, hzi⟩ := HCE.out w10 HN.out.bl
                have HRD : Hid (∀ w' : World, (w10.heap.size ≤ w'.heap.size ∧ ∀ z, z < w10.heap.size → (Value.slice a5 l5 c5).ownBlock ≠ some z → w'.heap[z]? = w10.heap[z]?) →
                    w'.cell? ⟨B, 5, none⟩ = some (.slice a5 l5 c5) ∧ w'.cell? ⟨w.heap.size, 8, none⟩ = some (.slice (some ⟨b, off, none⟩) t.th.length x.c8) ∧ w'.cell? ⟨b, off + i * 9 + 5, none⟩ = some (.slice ra y.pr.length rc) ∧ b < w'.heap.size ∧ B < w'.heap.size) := Lib.hid (fun w' hS => by
                  have hlo : ∀ z, z < W2.heap.size → (Value.slice a5 l5 c5).ownBlock ≠ some z := fun z hz e => by have := ow_lo HOW.out z e; omega
                  have h1 := HN.out.hBF
                  have h2 := HN.out.hB
                  have h3 := HN.out.hW
                  refine ⟨?_, ?_, ?_, by omega, by omega⟩
                  · rw [World.cell?_of_block (a := ⟨B, 5, none⟩) (hS.2 B (by omega) (hlo B (by omega)))]; exact HN.out.bw.cell 5
                  · rw [World.cell?_of_block (a := ⟨w.heap.size, 8, none⟩) (hS.2 w.heap.size (by omega) (hlo _ (by omega))), ← HX8.out]; exact HN.out.bt.cell 8
                  · rw [World.cell?_of_block (a := ⟨b, off + i * 9 + 5, none⟩) (hS.2 b (by omega) (hlo b (by omega)))]; exact hzp)
                obtain ⟨v5, w3, hr5, hown3, hgrow3, hlie3⟩ := app_ints w10.drew W2.heap.size _ l5 _ HOW.out ra rc y.pr hzi (by have := HPy.out.2.2.2; omega) hzw 23
                have hlie4 : v5.ownBlock = (Value.slice a5 l5 c5).ownBlock ∨ ∀ b, v5.ownBlock = some b → w10.drew.heap.size ≤ b := by
                  rcases hlie3 with h | h
                  · exact .inl h
                  · exact .inr (fun b hb => by rw [h] at hb; exact Nat.le_of_eq (Option.some.inj hb))
                obtain ⟨a6, c6, rfl⟩ := ow_shape hown3
                have HNd : Hid (NSt x t w W2 B w10.drew _ _) := Lib.hid (HN.out.below ((Below.refl _ _).drew))
                have HSK : Hid (w10.heap.size ≤ w3.heap.size ∧ ∀ z, z < w10.heap.size → (Value.slice a5 l5 c5).ownBlock ≠ some z → w3.heap[z]? = w10.heap[z]?) := Lib.hid ⟨hgrow3.size, fun z hz hr => hgrow3.block z hz (fun e => hr e.symm)⟩
                have HM3 := Lib.hid (HNd.out.mid (k := 4) (by decide) hgrow3)
                have HPUT := Lib.hid (HNd.out.put (k := 4) (by decide) hgrow3 (L := (dAt t i).pr ++ y.pr) (by rw [List.map_append]; exact hown3) hlie4)
                have HRUN := Lib.hid hr5
                clear hown3 hgrow3 hlie3 hlie4 hr5 HOW HNd HN hzi hzp
                have hiz : (0 : Int) ≤ (i : Int) := by omega
                have hit : (i : Int) < (t.th.length : Int) := by omega
                refine region_last (.rd 0 (.rd 1 (.rd 2 (.rd 3 (.rd 4 (.rd 5 (.rd 6 (.rd 7 (.one 8 (.one 9 .done)))))))))) (fun w' : World => w10.heap.size ≤ w'.heap.size ∧ ∀ z, z < w10.heap.size → (Value.slice a5 l5 c5).ownBlock ≠ some z → w'.heap[z]? = w10.heap[z]?) (by kernel_rfl) (by kernel_rfl) ⟨Nat.le_refl _, fun _ _ _ => rfl⟩ (fun KK hKK => ?_)
                intro OPS
                simp only [Ways.see, List.getElem?_cons_zero, List.getElem?_cons_succ]
                refine' inWays_read ?_ ?_ ?_ ?_
                rotate_left 2
                · rfl
                · (intro w' hS; obtain ⟨r0, r1, r2, r3, r4⟩ := HRD.out w' hS; go_simp; first | with_reducible rfl | skip)
                · (simp only [Act.put, List.setIfInBounds_toArray, List.set_cons_zero, List.set_cons_succ]; with_reducible rfl)
                refine' inWays_read ?_ ?_ ?_ ?_
                rotate_left 2
                · rfl
                · (intro w' hS; obtain ⟨r0, r1, r2, r3, r4⟩ := HRD.out w' hS; go_simp; first | with_reducible rfl | skip)
                · (simp only [Act.put, List.setIfInBounds_toArray, List.set_cons_zero, List.set_cons_succ]; with_reducible rfl)
                refine' inWays_read ?_ ?_ ?_ ?_
                rotate_left 2
                · rfl
                · (intro w' hS; obtain ⟨r0, r1, r2, r3, r4⟩ := HRD.out w' hS; go_simp; first | with_reducible rfl | skip)
                · (simp only [Act.put, List.setIfInBounds_toArray, List.set_cons_zero, List.set_cons_succ]; with_reducible rfl)
                refine' inWays_read ?_ ?_ ?_ ?_
                rotate_left 2
                · rfl
                · (intro w' hS; obtain ⟨r0, r1, r2, r3, r4⟩ := HRD.out w' hS; go_simp; first | with_reducible rfl | skip)
                · (simp only [Act.put, List.setIfInBounds_toArray, List.set_cons_zero, List.set_cons_succ]; with_reducible rfl)
                refine' inWays_read ?_ ?_ ?_ ?_
                rotate_left 2
                · rfl
                · (intro w' hS; obtain ⟨r0, r1, r2, r3, r4⟩ := HRD.out w' hS; go_simp; first | with_reducible rfl | skip)
                · (simp only [Act.put, List.setIfInBounds_toArray, List.set_cons_zero, List.set_cons_succ]; with_reducible rfl)
                refine' inWays_read ?_ ?_ ?_ ?_
                rotate_left 2
                · rfl
                · (intro w' hS; obtain ⟨r0, r1, r2, r3, r4⟩ := HRD.out w' hS; go_simp; first | with_reducible rfl | skip)
                · (simp only [Act.put, List.setIfInBounds_toArray, List.set_cons_zero, List.set_cons_succ]; with_reducible rfl)
                refine' inWays_read ?_ ?_ ?_ ?_
                rotate_left 2
                · rfl
                · (intro w' hS; obtain ⟨r0, r1, r2, r3, r4⟩ := HRD.out w' hS; go_simp; first | with_reducible rfl | skip)
                · (simp only [Act.put, List.setIfInBounds_toArray, List.set_cons_zero, List.set_cons_succ]; with_reducible rfl)
                refine' inWays_read ?_ ?_ ?_ ?_
                rotate_left 2
                · rfl
                · (intro w' hS; obtain ⟨r0, r1, r2, r3, r4⟩ := HRD.out w' hS; go_simp; first | with_reducible rfl | skip)
                · (simp only [Act.put, List.setIfInBounds_toArray, List.set_cons_zero, List.set_cons_succ]; with_reducible rfl)
                refine inWays_val rfl (run_app (.tmp 75) (.tmp 81) 23 rfl rfl rfl HRUN.out) HSK.out rfl ?_
                simp only [Act.put, List.setIfInBounds_toArray, List.set_cons_zero, List.set_cons_succ]
                refine' inWays_val ?_ ?_ ?_ ?_ ?_
                rotate_left 3
                · rfl
                · (go_simp; first | exact ⟨rfl, rfl⟩ | with_reducible rfl)
                · exact HSK.out
                · (simp only [Act.put, List.setIfInBounds_toArray, List.set_cons_zero, List.set_cons_succ]; with_reducible rfl)
                refine inWays_nil (hKK.out _ _ ?_)
                clear hKK HRD HRUN HSK
                have q0 := HM3.out.2.2.cell 5
                have q1 := HM3.out.2.2.fr 5
                simp only [worldC, putR, List.getElem?_cons_zero, List.getElem?_cons_succ] at q0
                have hzb3 : B < w3.heap.size := HM3.out.2.2.lt
                have hpl := HPy.out.2.2.2
                have HFIN : Hid (NSt x t w W2 B (w3.setCell ⟨B, 5, none⟩ (.slice a6 (l5 + y.pr.length) c6)) _ (dAt t (i + 1))) := Lib.hid (by rw [HDA.out]; exact HPUT.out)
                clear HPUT HM3
                simp only [List.length_cons, List.length_nil, Nat.zero_add, Nat.reduceAdd, Nat.reduceSub, List.drop_succ_cons, List.drop_zero]
                go_wp2_with fail
                go_roundw
                case rel => exact ⟨i + 1, l5 + y.pr.length, _, _, _, _, _, _, _, _, _, _, by go_num, by omega, by omega, HFIN⟩
                case measure => simp [intOf]; omega
        · have e1 : (y.pa != 0) = true := by simp [hp0]
          have e2 : (y.pa == 0) = false := by simp [hp0]
          have hcn : afterI (t.th.map (·.pa)) y.pa (t.th.length - (i + 1)) (i + 1) = nxv := by
            have := HNX.out
            rw [if_neg hp0] at this
            exact this.symm
          rw [hcn] at HA2
          clear hcn hp0
          have hwr := HWR.out.1
          have hwr2 := HWR.out.2
          go_wp2_with fail
          refine (HA2.out _ HN.out.bl).mono ?_
          rintro e w6 ⟨rfl, hb6⟩
          clear hwr hwr2
          have HN6 := Lib.hid (HN.out.below hb6)
          clear hb6 HN HTT
          have HN := HN6
          clear HN6
          have HTT := Lib.hid HN.out.bt
          go_upto_region 11 with (fail)
          clear kt0 kt1 kt2 kt3 kt4 kt5 kt6 kt7 kt8 kt9 kt10 kt11 kt12 kt13 kt14 HTT HWR hgt e1 e2
          as_aux_lemma =>
            -- w6: the world; 0: the row; a1, c1: where it lies; y.pa: the number; (dAt t i).pa: the list so far; 12: the next region; w7: the world behind
            have pB := HN.out.bw.cell (0 + 1)
            simp only [worldC, putR, List.getElem?_cons_zero, List.getElem?_cons_succ] at pB
            have HOW : Hid ((w6).ownsRow W2.heap.size 3 1 (.slice a1 i c1) i (((dAt t i).pa).map (.int .i64))) := Lib.hid (HN.out.own 0 (by decide))
            have HWN := Lib.hid (HOW.out.alloc (.cells #[.int .i64 y.pa] 3))
            have HNa := Lib.hid (HN.out.below (bl_a (Below.refl _ _) (.cells #[.int .i64 y.pa] 3)))
            have hzw : W2.heap.size ≤ (w6).heap.size := HN.out.hW
            have hzb : B < (w6).heap.size := HN.out.bw.lt
            go_wp2_with (at_builtin; refine wpList_append_lies _ rfl _ _ 23 rfl W2.heap.size 3 i0 (.int .i64 0) 1 8 Try.underlying23 hi hi1 hi2 hi3 rfl (by decide) _ i (((dAt t i).pa).map (.int .i64)) rfl HWN.out ⟨(w6).heap.size, 0, none⟩ 1 1 [.int .i64 y.pa] rfl rfl (int_newS _ _ _) (ow_one rfl) (by decide) (by unfold maxLen; omega) (by omega) (by simp; omega) _ rfl ?_; intro g1 k1 w3 hown3 hgrow3 hat3 hlt3; refine Hid.out ?_)
            refine Lib.hid ?_
            have HM3 := Lib.hid (HNa.out.mid (k := 0) (by decide) hgrow3)
            have HPUT := Lib.hid (HNa.out.put (k := 0) (by decide) hgrow3 (L := (dAt t i).pa ++ [y.pa]) (by rw [List.map_append]; exact hown3) (app_lie hat3))
            clear pB hown3 hgrow3 hat3 hzb HOW HWN HNa HN
            have q0 := HM3.out.2.2.cell (0 + 1)
            have q1 := HM3.out.2.2.fr (0 + 1)
            simp only [worldC, putR, List.getElem?_cons_zero, List.getElem?_cons_succ] at q0
            have hzb3 : B < w3.heap.size := HM3.out.2.2.lt
            go_upto_region 12 with (fail)
            generalize hWn : World.setCell w3 _ _ = w7
            have HN : Hid (NSt x t w W2 B w7 _ _) := Lib.hid (by rw [← hWn]; exact HPUT.out)
            clear hWn HPUT HM3 q0 q1 hzb3 hlt3 hzw
            -- w7: the world; 1: the row; a2, c2: where it lies; chv: the number; (dAt t i).ch: the list so far; 13: the next region; w8: the world behind
            have pB := HN.out.bw.cell (1 + 1)
            simp only [worldC, putR, List.getElem?_cons_zero, List.getElem?_cons_succ] at pB
            have HOW : Hid ((w7).ownsRow W2.heap.size 3 1 (.slice a2 i c2) i (((dAt t i).ch).map (.int .i64))) := Lib.hid (HN.out.own 1 (by decide))
            have HWN := Lib.hid (HOW.out.alloc (.cells #[.int .i64 chv] 3))
            have HNa := Lib.hid (HN.out.below (bl_a (Below.refl _ _) (.cells #[.int .i64 chv] 3)))
            have hzw : W2.heap.size ≤ (w7).heap.size := HN.out.hW
            have hzb : B < (w7).heap.size := HN.out.bw.lt
            go_wp2_with (at_builtin; refine wpList_append_lies _ rfl _ _ 23 rfl W2.heap.size 3 i0 (.int .i64 0) 1 8 Try.underlying23 hi hi1 hi2 hi3 rfl (by decide) _ i (((dAt t i).ch).map (.int .i64)) rfl HWN.out ⟨(w7).heap.size, 0, none⟩ 1 1 [.int .i64 chv] rfl rfl (int_newS _ _ _) (ow_one rfl) (by decide) (by unfold maxLen; omega) (by omega) (by simp; omega) _ rfl ?_; intro g2 k2 w3 hown3 hgrow3 hat3 hlt3; refine Hid.out ?_)
            refine Lib.hid ?_
            have HM3 := Lib.hid (HNa.out.mid (k := 1) (by decide) hgrow3)
            have HPUT := Lib.hid (HNa.out.put (k := 1) (by decide) hgrow3 (L := (dAt t i).ch ++ [chv]) (by rw [List.map_append]; exact hown3) (app_lie hat3))
            clear pB hown3 hgrow3 hat3 hzb HOW HWN HNa HN
            have q0 := HM3.out.2.2.cell (1 + 1)
            have q1 := HM3.out.2.2.fr (1 + 1)
            simp only [worldC, putR, List.getElem?_cons_zero, List.getElem?_cons_succ] at q0
            have hzb3 : B < w3.heap.size := HM3.out.2.2.lt
            go_upto_region 13 with (fail)
            generalize hWn : World.setCell w3 _ _ = w8
            have HN : Hid (NSt x t w W2 B w8 _ _) := Lib.hid (by rw [← hWn]; exact HPUT.out)
            clear hWn HPUT HM3 q0 q1 hzb3 hlt3 hzw
            -- w8: the world; 2: the row; a3, c3: where it lies; nxv: the number; (dAt t i).nx: the list so far; 14: the next region; w9: the world behind
            have pB := HN.out.bw.cell (2 + 1)
            simp only [worldC, putR, List.getElem?_cons_zero, List.getElem?_cons_succ] at pB
            have HOW : Hid ((w8).ownsRow W2.heap.size 3 1 (.slice a3 i c3) i (((dAt t i).nx).map (.int .i64))) := Lib.hid (HN.out.own 2 (by decide))
            have HWN := Lib.hid (HOW.out.alloc (.cells #[.int .i64 nxv] 3))
            have HNa := Lib.hid (HN.out.below (bl_a (Below.refl _ _) (.cells #[.int .i64 nxv] 3)))
            have hzw : W2.heap.size ≤ (w8).heap.size := HN.out.hW
            have hzb : B < (w8).heap.size := HN.out.bw.lt
            go_wp2_with (at_builtin; refine wpList_append_lies _ rfl _ _ 23 rfl W2.heap.size 3 i0 (.int .i64 0) 1 8 Try.underlying23 hi hi1 hi2 hi3 rfl (by decide) _ i (((dAt t i).nx).map (.int .i64)) rfl HWN.out ⟨(w8).heap.size, 0, none⟩ 1 1 [.int .i64 nxv] rfl rfl (int_newS _ _ _) (ow_one rfl) (by decide) (by unfold maxLen; omega) (by omega) (by simp; omega) _ rfl ?_; intro g3 k3 w3 hown3 hgrow3 hat3 hlt3; refine Hid.out ?_)
            refine Lib.hid ?_
            have HM3 := Lib.hid (HNa.out.mid (k := 2) (by decide) hgrow3)
            have HPUT := Lib.hid (HNa.out.put (k := 2) (by decide) hgrow3 (L := (dAt t i).nx ++ [nxv]) (by rw [List.map_append]; exact hown3) (app_lie hat3))
            clear pB hown3 hgrow3 hat3 hzb HOW HWN HNa HN
            have q0 := HM3.out.2.2.cell (2 + 1)
            have q1 := HM3.out.2.2.fr (2 + 1)
            simp only [worldC, putR, List.getElem?_cons_zero, List.getElem?_cons_succ] at q0
            have hzb3 : B < w3.heap.size := HM3.out.2.2.lt
            go_upto_region 14 with (fail)
            generalize hWn : World.setCell w3 _ _ = w9
            have HN : Hid (NSt x t w W2 B w9 _ _) := Lib.hid (by rw [← hWn]; exact HPUT.out)
            clear hWn HPUT HM3 q0 q1 hzb3 hlt3 hzw
            as_aux_lemma =>
              have HOW : Hid (w9.ownsRow W2.heap.size 3 1 (.slice a4 i c4) i ((dAt t i).fl.map (.int .i64))) := Lib.hid (HN.out.own 3 (by decide))
              have hzw : W2.heap.size ≤ w9.heap.size := HN.out.hW
              have HRD : Hid (∀ w' : World, (w9.heap.size ≤ w'.heap.size ∧ ∀ z, z < w9.heap.size → (Value.slice a4 i c4).ownBlock ≠ some z → w'.heap[z]? = w9.heap[z]?) →
                  w'.cell? ⟨B, 4, none⟩ = some (.slice a4 i c4) ∧ w'.cell? ⟨w.heap.size, 8, none⟩ = some (.slice (some ⟨b, off, none⟩) t.th.length x.c8) ∧ w'.cell? ⟨b, off + i * 9 + 3, none⟩ = some (.int .i64 y.fl) ∧ b < w'.heap.size ∧ B < w'.heap.size) := Lib.hid (fun w' hS => by
                have hlo : ∀ z, z < W2.heap.size → (Value.slice a4 i c4).ownBlock ≠ some z := fun z hz e => by have := ow_lo HOW.out z e; omega
                have h1 := HN.out.hBF
                have h2 := HN.out.hB
                have h3 := HN.out.hW
                refine ⟨?_, ?_, ?_, by omega, by omega⟩
                · rw [World.cell?_of_block (a := ⟨B, 4, none⟩) (hS.2 B (by omega) (hlo B (by omega)))]; exact HN.out.bw.cell 4
                · rw [World.cell?_of_block (a := ⟨w.heap.size, 8, none⟩) (hS.2 w.heap.size (by omega) (hlo _ (by omega))), ← HX8.out]; exact HN.out.bt.cell 8
                · rw [World.cell?_of_block (a := ⟨b, off + i * 9 + 3, none⟩) (hS.2 b (by omega) (hlo b (by omega)))]; exact (HCE.out w9 HN.out.bl).2.1)
              have hiz : (0 : Int) ≤ (i : Int) := by omega
              have hit : (i : Int) < (t.th.length : Int) := by omega
              refine region_last (.rd 0 (.rd 1 (.rd 2 (.rd 3 (.rd 4 (.rd 5 (.rd 6 (.rd 7 (.one 8 (.one 9 (.one 10 .done))))))))))) (fun w' : World => w9.heap.size ≤ w'.heap.size ∧ ∀ z, z < w9.heap.size → (Value.slice a4 i c4).ownBlock ≠ some z → w'.heap[z]? = w9.heap[z]?) (by kernel_rfl) (by kernel_rfl) ⟨Nat.le_refl _, fun _ _ _ => rfl⟩ (fun KK hKK => ?_)
              intro OPS
              simp only [Ways.see, List.getElem?_cons_zero, List.getElem?_cons_succ]
              refine' inWays_read ?_ ?_ ?_ ?_
              rotate_left 2
              · rfl
              · (intro w' hS; obtain ⟨r0, r1, r2, r3, r4⟩ := HRD.out w' hS; go_simp; first | with_reducible rfl | skip)
              · (simp only [Act.put, List.setIfInBounds_toArray, List.set_cons_zero, List.set_cons_succ]; with_reducible rfl)
              refine' inWays_read ?_ ?_ ?_ ?_
              rotate_left 2
              · rfl
              · (intro w' hS; obtain ⟨r0, r1, r2, r3, r4⟩ := HRD.out w' hS; go_simp; first | with_reducible rfl | skip)
              · (simp only [Act.put, List.setIfInBounds_toArray, List.set_cons_zero, List.set_cons_succ]; with_reducible rfl)
              refine' inWays_read ?_ ?_ ?_ ?_
              rotate_left 2
              · rfl
              · (intro w' hS; obtain ⟨r0, r1, r2, r3, r4⟩ := HRD.out w' hS; go_simp; first | with_reducible rfl | skip)
              · (simp only [Act.put, List.setIfInBounds_toArray, List.set_cons_zero, List.set_cons_succ]; with_reducible rfl)
              refine' inWays_read ?_ ?_ ?_ ?_
              rotate_left 2
              · rfl
              · (intro w' hS; obtain ⟨r0, r1, r2, r3, r4⟩ := HRD.out w' hS; go_simp; first | with_reducible rfl | skip)
              · (simp only [Act.put, List.setIfInBounds_toArray, List.set_cons_zero, List.set_cons_succ]; with_reducible rfl)
              refine' inWays_read ?_ ?_ ?_ ?_
              rotate_left 2
              · rfl
              · (intro w' hS; obtain ⟨r0, r1, r2, r3, r4⟩ := HRD.out w' hS; go_simp; first | with_reducible rfl | skip)
              · (simp only [Act.put, List.setIfInBounds_toArray, List.set_cons_zero, List.set_cons_succ]; with_reducible rfl)
              refine' inWays_read ?_ ?_ ?_ ?_
              rotate_left 2
              · rfl
              · (intro w' hS; obtain ⟨r0, r1, r2, r3, r4⟩ := HRD.out w' hS; go_simp; first | with_reducible rfl | skip)
              · (simp only [Act.put, List.setIfInBounds_toArray, List.set_cons_zero, List.set_cons_succ]; with_reducible rfl)
              refine' inWays_read ?_ ?_ ?_ ?_
              rotate_left 2
              · rfl
              · (intro w' hS; obtain ⟨r0, r1, r2, r3, r4⟩ := HRD.out w' hS; go_simp; first | with_reducible rfl | skip)
              · (simp only [Act.put, List.setIfInBounds_toArray, List.set_cons_zero, List.set_cons_succ]; with_reducible rfl)
              refine' inWays_read ?_ ?_ ?_ ?_
              rotate_left 2
              · rfl
              · (intro w' hS; obtain ⟨r0, r1, r2, r3, r4⟩ := HRD.out w' hS; go_simp; first | with_reducible rfl | skip)
              · (simp only [Act.put, List.setIfInBounds_toArray, List.set_cons_zero, List.set_cons_succ]; with_reducible rfl)
              refine' inWays_val ?_ ?_ ?_ ?_ ?_
              rotate_left 3
              · rfl
              · (go_simp; first | exact ⟨rfl, rfl⟩ | with_reducible rfl)
              · exact sk_alloc _
              · (simp only [Act.put, List.setIfInBounds_toArray, List.set_cons_zero, List.set_cons_succ]; with_reducible rfl)
              generalize hWa : World.drew (World.alloc w9 _) = Wa
              have HWN : Hid (Wa.ownsRow W2.heap.size 3 1 (.slice a4 i c4) i ((dAt t i).fl.map (.int .i64))) := Lib.hid (by rw [← hWa]; exact HOW.out.alloc _)
              have HNE : Hid (∀ j v, ([Value.int .i64 y.fl] : List Value)[j]? = some v → Wa.cell? ((⟨w9.heap.size, 0, none⟩ : Addr).add j) = some v) := Lib.hid (by rw [← hWa]; exact int_newS w9 y.fl 3)
              have HNa : Hid (NSt x t w W2 B Wa _ _) := Lib.hid (HN.out.below (w' := Wa) (by rw [← hWa]; exact (bl_a (Below.refl _ _) _).drew))
              have HSA : Hid (w9.heap.size ≤ Wa.heap.size ∧ ∀ z, z < w9.heap.size → (Value.slice a4 i c4).ownBlock ≠ some z → Wa.heap[z]? = w9.heap[z]?) := Lib.hid (by rw [← hWa]; exact sk_alloc _)
              clear hWa
              refine inWays_append rfl _ _ 23 rfl W2.heap.size 3 i0 (.int .i64 0) 1 8 Try.underlying23 hi hi1 hi2 hi3 rfl (by decide) _ i ((dAt t i).fl.map (.int .i64)) rfl HWN.out ⟨w9.heap.size, 0, none⟩ 1 1 [.int .i64 y.fl] rfl rfl HNE.out (ow_one rfl) (by decide) (by unfold maxLen; omega) (by omega) (Nat.le_trans hzw HSA.out.1) (fun g4 k4 w3 hown3 hgrow3 hat3 hlt3 => ⟨sk_then HSA.out hgrow3, ?_⟩)
              simp only [Act.put, List.setIfInBounds_toArray, List.set_cons_zero, List.set_cons_succ]
              refine' inWays_val ?_ ?_ ?_ ?_ ?_
              rotate_left 3
              · rfl
              · (go_simp; first | exact ⟨rfl, rfl⟩ | with_reducible rfl)
              · exact sk_then HSA.out hgrow3
              · (simp only [Act.put, List.setIfInBounds_toArray, List.set_cons_zero, List.set_cons_succ]; with_reducible rfl)
              refine inWays_nil (hKK.out _ _ ?_)
              have HM3 := Lib.hid (HNa.out.mid (k := 3) (by decide) hgrow3)
              have HPUT := Lib.hid (HNa.out.put (k := 3) (by decide) hgrow3 (L := (dAt t i).fl ++ [y.fl]) (by rw [List.map_append]; exact hown3) (app_lie hat3))
              clear hown3 hgrow3 hat3 HOW HWN HNE HNa HSA HRD HN hKK
              have q0 := HM3.out.2.2.cell 4
              have q1 := HM3.out.2.2.fr 4
              simp only [worldC, putR, List.getElem?_cons_zero, List.getElem?_cons_succ] at q0
              have hzb3 : B < w3.heap.size := HM3.out.2.2.lt
              simp only [List.length_cons, List.length_nil, Nat.zero_add, Nat.reduceAdd, Nat.reduceSub, List.drop_succ_cons, List.drop_zero]
              go_upto_region 15 with (fail)
              generalize hWn : World.setCell w3 _ _ = w10
              have HN : Hid (NSt x t w W2 B w10 _ _) := Lib.hid (by rw [← hWn]; exact HPUT.out)
              clear hWn HPUT HM3 q0 q1 hzb3 hlt3 hzw
              as_aux_lemma =>
                have HOW : Hid (w10.drew.ownsRow W2.heap.size 3 1 (.slice a5 l5 c5) l5 ((dAt t i).pr.map (.int .i64))) := Lib.hid (HN.out.own 4 (by decide))
                have hzw : W2.heap.size ≤ w10.heap.size := HN.out.hW
                obtain ⟨_, _, hzp, hzi⟩ := HCE.out w10 HN.out.bl
                have HRD : Hid (∀ w' : World, (w10.heap.size ≤ w'.heap.size ∧ ∀ z, z < w10.heap.size → (Value.slice a5 l5 c5).ownBlock ≠ some z → w'.heap[z]? = w10.heap[z]?) →
                    w'.cell? ⟨B, 5, none⟩ = some (.slice a5 l5 c5) ∧ w'.cell? ⟨w.heap.size, 8, none⟩ = some (.slice (some ⟨b, off, none⟩) t.th.length x.c8) ∧ w'.cell? ⟨b, off + i * 9 + 5, none⟩ = some (.slice ra y.pr.length rc) ∧ b < w'.heap.size ∧ B < w'.heap.size) := Lib.hid (fun w' hS => by
                  have hlo : ∀ z, z < W2.heap.size → (Value.slice a5 l5 c5).ownBlock ≠ some z := fun z hz e => by have := ow_lo HOW.out z e; omega
                  have h1 := HN.out.hBF
                  have h2 := HN.out.hB
                  have h3 := HN.out.hW
                  refine ⟨?_, ?_, ?_, by omega, by omega⟩
                  · rw [World.cell?_of_block (a := ⟨B, 5, none⟩) (hS.2 B (by omega) (hlo B (by omega)))]; exact HN.out.bw.cell 5
                  · rw [World.cell?_of_block (a := ⟨w.heap.size, 8, none⟩) (hS.2 w.heap.size (by omega) (hlo _ (by omega))), ← HX8.out]; exact HN.out.bt.cell 8
                  · rw [World.cell?_of_block (a := ⟨b, off + i * 9 + 5, none⟩) (hS.2 b (by omega) (hlo b (by omega)))]; exact hzp)
                obtain ⟨v5, w3, hr5, hown3, hgrow3, hlie3⟩ := app_ints w10.drew W2.heap.size _ l5 _ HOW.out ra rc y.pr hzi (by have := HPy.out.2.2.2; omega) hzw 23
                have hlie4 : v5.ownBlock = (Value.slice a5 l5 c5).ownBlock ∨ ∀ b, v5.ownBlock = some b → w10.drew.heap.size ≤ b := by
                  rcases hlie3 with h | h
                  · exact .inl h
                  · exact .inr (fun b hb => by rw [h] at hb; exact Nat.le_of_eq (Option.some.inj hb))
                obtain ⟨a6, c6, rfl⟩ := ow_shape hown3
                have HNd : Hid (NSt x t w W2 B w10.drew _ _) := Lib.hid (HN.out.below ((Below.refl _ _).drew))
                have HSK : Hid (w10.heap.size ≤ w3.heap.size ∧ ∀ z, z < w10.heap.size → (Value.slice a5 l5 c5).ownBlock ≠ some z → w3.heap[z]? = w10.heap[z]?) := Lib.hid ⟨hgrow3.size, fun z hz hr => hgrow3.block z hz (fun e => hr e.symm)⟩
                have HM3 := Lib.hid (HNd.out.mid (k := 4) (by decide) hgrow3)
                have HPUT := Lib.hid (HNd.out.put (k := 4) (by decide) hgrow3 (L := (dAt t i).pr ++ y.pr) (by rw [List.map_append]; exact hown3) hlie4)
                have HRUN := Lib.hid hr5
                clear hown3 hgrow3 hlie3 hlie4 hr5 HOW HNd HN hzi hzp
                have hiz : (0 : Int) ≤ (i : Int) := by omega
                have hit : (i : Int) < (t.th.length : Int) := by omega
                refine region_last (.rd 0 (.rd 1 (.rd 2 (.rd 3 (.rd 4 (.rd 5 (.rd 6 (.rd 7 (.one 8 (.one 9 .done)))))))))) (fun w' : World => w10.heap.size ≤ w'.heap.size ∧ ∀ z, z < w10.heap.size → (Value.slice a5 l5 c5).ownBlock ≠ some z → w'.heap[z]? = w10.heap[z]?) (by kernel_rfl) (by kernel_rfl) ⟨Nat.le_refl _, fun _ _ _ => rfl⟩ (fun KK hKK => ?_)
                intro OPS
                simp only [Ways.see, List.getElem?_cons_zero, List.getElem?_cons_succ]
                refine' inWays_read ?_ ?_ ?_ ?_
                rotate_left 2
                · rfl
                · (intro w' hS; obtain ⟨r0, r1, r2, r3, r4⟩ := HRD.out w' hS; go_simp; first | with_reducible rfl | skip)
                · (simp only [Act.put, List.setIfInBounds_toArray, List.set_cons_zero, List.set_cons_succ]; with_reducible rfl)
                refine' inWays_read ?_ ?_ ?_ ?_
                rotate_left 2
                · rfl
                · (intro w' hS; obtain ⟨r0, r1, r2, r3, r4⟩ := HRD.out w' hS; go_simp; first | with_reducible rfl | skip)
                · (simp only [Act.put, List.setIfInBounds_toArray, List.set_cons_zero, List.set_cons_succ]; with_reducible rfl)
                refine' inWays_read ?_ ?_ ?_ ?_
                rotate_left 2
                · rfl
                · (intro w' hS; obtain ⟨r0, r1, r2, r3, r4⟩ := HRD.out w' hS; go_simp; first | with_reducible rfl | skip)
                · (simp only [Act.put, List.setIfInBounds_toArray, List.set_cons_zero, List.set_cons_succ]; with_reducible rfl)
                refine' inWays_read ?_ ?_ ?_ ?_
                rotate_left 2
                · rfl
                · (intro w' hS; obtain ⟨r0, r1, r2, r3, r4⟩ := HRD.out w' hS; go_simp; first | with_reducible rfl | skip)
                · (simp only [Act.put, List.setIfInBounds_toArray, List.set_cons_zero, List.set_cons_succ]; with_reducible rfl)
                refine' inWays_read ?_ ?_ ?_ ?_
                rotate_left 2
                · rfl
                · (intro w' hS; obtain ⟨r0, r1, r2, r3, r4⟩ := HRD.out w' hS; go_simp; first | with_reducible rfl | skip)
                · (simp only [Act.put, List.setIfInBounds_toArray, List.set_cons_zero, List.set_cons_succ]; with_reducible rfl)
                refine' inWays_read ?_ ?_ ?_ ?_
                rotate_left 2
                · rfl
                · (intro w' hS; obtain ⟨r0, r1, r2, r3, r4⟩ := HRD.out w' hS; go_simp; first | with_reducible rfl | skip)
                · (simp only [Act.put, List.setIfInBounds_toArray, List.set_cons_zero, List.set_cons_succ]; with_reducible rfl)
                refine' inWays_read ?_ ?_ ?_ ?_
                rotate_left 2
                · rfl
                · (intro w' hS; obtain ⟨r0, r1, r2, r3, r4⟩ := HRD.out w' hS; go_simp; first | with_reducible rfl | skip)
                · (simp only [Act.put, List.setIfInBounds_toArray, List.set_cons_zero, List.set_cons_succ]; with_reducible rfl)
                refine' inWays_read ?_ ?_ ?_ ?_
                rotate_left 2
                · rfl
                · (intro w' hS; obtain ⟨r0, r1, r2, r3, r4⟩ := HRD.out w' hS; go_simp; first | with_reducible rfl | skip)
                · (simp only [Act.put, List.setIfInBounds_toArray, List.set_cons_zero, List.set_cons_succ]; with_reducible rfl)
                refine inWays_val rfl (run_app (.tmp 75) (.tmp 81) 23 rfl rfl rfl HRUN.out) HSK.out rfl ?_
                simp only [Act.put, List.setIfInBounds_toArray, List.set_cons_zero, List.set_cons_succ]
                refine' inWays_val ?_ ?_ ?_ ?_ ?_
                rotate_left 3
                · rfl
                · (go_simp; first | exact ⟨rfl, rfl⟩ | with_reducible rfl)
                · exact HSK.out
                · (simp only [Act.put, List.setIfInBounds_toArray, List.set_cons_zero, List.set_cons_succ]; with_reducible rfl)
                refine inWays_nil (hKK.out _ _ ?_)
                clear hKK HRD HRUN HSK
                have q0 := HM3.out.2.2.cell 5
                have q1 := HM3.out.2.2.fr 5
                simp only [worldC, putR, List.getElem?_cons_zero, List.getElem?_cons_succ] at q0
                have hzb3 : B < w3.heap.size := HM3.out.2.2.lt
                have hpl := HPy.out.2.2.2
                have HFIN : Hid (NSt x t w W2 B (w3.setCell ⟨B, 5, none⟩ (.slice a6 (l5 + y.pr.length) c6)) _ (dAt t (i + 1))) := Lib.hid (by rw [HDA.out]; exact HPUT.out)
                clear HPUT HM3
                simp only [List.length_cons, List.length_nil, Nat.zero_add, Nat.reduceAdd, Nat.reduceSub, List.drop_succ_cons, List.drop_zero]
                go_wp2_with fail
                go_roundw
                case rel => exact ⟨i + 1, l5 + y.pr.length, _, _, _, _, _, _, _, _, _, _, by go_num, by omega, by omega, HFIN⟩
                case measure => simp [intOf]; omega
    · obtain rfl : i = t.th.length := by omega
      have b0 := HN.out.bw.cell 0
      have b1 := HN.out.bw.cell 1
      have b2 := HN.out.bw.cell 2
      have b3 := HN.out.bw.cell 3
      have b4 := HN.out.bw.cell 4
      have b5 := HN.out.bw.cell 5
      have b6 := HN.out.bw.cell 6
      have b7 := HN.out.bw.cell 7
      have b8 := HN.out.bw.cell 8
      have b9 := HN.out.bw.cell 9
      have b10 := HN.out.bw.cell 10
      have b11 := HN.out.bw.cell 11
      have b12 := HN.out.bw.cell 12
      have r0 := HN.out.br.cell 0
      have r1 := HN.out.br.cell 1
      have r2 := HN.out.br.cell 2
      have r3 := HN.out.br.cell 3
      have r4 := HN.out.br.cell 4
      have r5 := HN.out.br.cell 5
      have r6 := HN.out.br.cell 6
      have r7 := HN.out.br.cell 7
      have r8 := HN.out.br.cell 8
      have r9 := HN.out.br.cell 9
      have r10 := HN.out.br.cell 10
      have r11 := HN.out.br.cell 11
      have r12 := HN.out.br.cell 12
      have f0 := HN.out.br.fr 0
      have f1 := HN.out.br.fr 1
      have f2 := HN.out.br.fr 2
      have f3 := HN.out.br.fr 3
      have f4 := HN.out.br.fr 4
      have f5 := HN.out.br.fr 5
      have f6 := HN.out.br.fr 6
      have f7 := HN.out.br.fr 7
      have f8 := HN.out.br.fr 8
      have f9 := HN.out.br.fr 9
      have f10 := HN.out.br.fr 10
      have f11 := HN.out.br.fr 11
      have f12 := HN.out.br.fr 12
      simp only [worldC, zeroW, List.getElem?_cons_zero, List.getElem?_cons_succ] at b0 b1 b2 b3 b4 b5 b6 b7 b8 b9 b10 b11 b12 r0 r1 r2 r3 r4 r5 r6 r7 r8 r9 r10 r11 r12
      have hzB : B < wr.heap.size := HN.out.bw.lt
      have hzr : w.heap.size + 1 < wr.heap.size := HN.out.br.lt
      have kt8 := HN.out.bt.cell 8
      simp only [tabC, List.getElem?_cons_zero, List.getElem?_cons_succ] at kt8
      have hzs : w.heap.size < wr.heap.size := HN.out.bt.lt
      have hzne : ¬ (w.heap.size + 1 = B) := by have := HN.out.hB; omega
      go_wp2_with fail
      generalize hWf : World.setCell _ ⟨w.heap.size + 1, 12, none⟩ _ = Wf
      have HGR : Hid (wr.grownBy Wf (some (w.heap.size + 1))) := Lib.hid (by
        rw [← hWf]
        exact (gr_trans (gr_trans (gr_trans (gr_trans (gr_trans (gr_trans (gr_trans (gr_trans (gr_trans (gr_trans (gr_trans (gr_trans (gr_set wr (w.heap.size + 1) 0 _) (gr_set _ (w.heap.size + 1) 1 _)) (gr_set _ (w.heap.size + 1) 2 _)) (gr_set _ (w.heap.size + 1) 3 _)) (gr_set _ (w.heap.size + 1) 4 _)) (gr_set _ (w.heap.size + 1) 5 _)) (gr_set _ (w.heap.size + 1) 6 _)) (gr_set _ (w.heap.size + 1) 7 _)) (gr_set _ (w.heap.size + 1) 8 _)) (gr_set _ (w.heap.size + 1) 9 _)) (gr_set _ (w.heap.size + 1) 10 _)) (gr_set _ (w.heap.size + 1) 11 _)) (gr_set _ (w.heap.size + 1) 12 _)))
      have HRW : Hid (BK Wf (w.heap.size + 1) (worldC ⟨ga', a1, a2, a3, a4, a5, some ⟨g7', 0, none⟩, t.gl.length, t.th.length, t.th.length, t.th.length, t.th.length, l5, t.da.length, gc', c1, c2, c3, c4, c5, t.da.length, z', 0, 0, 0, 0, 0⟩) 33) := Lib.hid (by
        rw [← hWf]
        have hBR := HN.out.br
        have := (((((((((((((hBR.set 0 (.slice ga' t.gl.length gc')).set 1 (.slice a1 t.th.length c1)).set 2 (.slice a2 t.th.length c2)).set 3 (.slice a3 t.th.length c3)).set 4 (.slice a4 t.th.length c4)).set 5 (.slice a5 l5 c5)).set 6 (.slice (some ⟨g7', 0, none⟩) t.da.length t.da.length)).set 7 (.int .u64 z')).set 8 (.int .i64 0)).set 9 (.int .i64 0)).set 10 (.int .i64 0)).set 11 (.int .i64 0)).set 12 (.int .i64 0))
        simp only [zeroW, List.set_cons_zero, List.set_cons_succ] at this
        exact this)
      clear hWf b0 b1 b2 b3 b4 b5 b6 b7 b8 b9 b10 b11 b12 r0 r1 r2 r3 r4 r5 r6 r7 r8 r9 r10 r11 r12 f0 f1 f2 f3 f4 f5 f6 f7 f8 f9 f10 f11 f12 kt8
      have HWD : Hid (WRd Wf ⟨ga', a1, a2, a3, a4, a5, some ⟨g7', 0, none⟩, t.gl.length, t.th.length, t.th.length, t.th.length, t.th.length, l5, t.da.length, gc', c1, c2, c3, c4, c5, t.da.length, z', 0, 0, 0, 0, 0⟩ (newD t)) := Lib.hid (new_reads HN.out HGR.out hn HPW.out hl5)
      have HFA : Hid (WFar w.heap.size ⟨ga', a1, a2, a3, a4, a5, some ⟨g7', 0, none⟩, t.gl.length, t.th.length, t.th.length, t.th.length, t.th.length, l5, t.da.length, gc', c1, c2, c3, c4, c5, t.da.length, z', 0, 0, 0, 0, 0⟩ (newD t)) := Lib.hid (new_far HN.out)
      have HBF : Hid (Below w.heap.size w Wf) := Lib.hid (bl_g HN.out.bl HGR.out (fun k hk => by have := Option.some.inj hk; omega))
      have v0 := HRW.out.cell 0
      have v1 := HRW.out.cell 1
      have v2 := HRW.out.cell 2
      have v3 := HRW.out.cell 3
      have v4 := HRW.out.cell 4
      have v5 := HRW.out.cell 5
      have v6 := HRW.out.cell 6
      have v7 := HRW.out.cell 7
      have v8 := HRW.out.cell 8
      have v9 := HRW.out.cell 9
      have v10 := HRW.out.cell 10
      have v11 := HRW.out.cell 11
      have v12 := HRW.out.cell 12
      simp only [worldC, List.getElem?_cons_zero, List.getElem?_cons_succ] at v0 v1 v2 v3 v4 v5 v6 v7 v8 v9 v10 v11 v12
      refine bodyPost_ret (v := worldV ⟨ga', a1, a2, a3, a4, a5, some ⟨g7', 0, none⟩, t.gl.length, t.th.length, t.th.length, t.th.length, t.th.length, l5, t.da.length, gc', c1, c2, c3, c4, c5, t.da.length, z', 0, 0, 0, 0, 0⟩) ?_ rfl ⟨_, rfl, HWD.out, HBF.out, HFA.out⟩
      simp [results, Try.results7, go_sem, v0, v1, v2, v3, v4, v5, v6, v7, v8, v9, v10, v11, v12, worldV, worldC]
end Go.Proofs.Ytjggklfegcejhaa
