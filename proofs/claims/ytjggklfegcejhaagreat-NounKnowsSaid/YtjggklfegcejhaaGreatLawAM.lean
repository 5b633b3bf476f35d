/- Contracts of clewref36.Same, clewref19.after, clewref05.From.; What clewref19.New keeps between two rounds; appends of numbers.; Contract of clewref19.New.; Contract of clewref04.Cap: a text whose first letter is made great; what key that has.; Contracts of clewlaw36.may, room, awake; words that came in as an argument. -/
import Derived.Test.YtjggklfegcejhaaGreatNounLs
import Derived.Test.YtjggklfegcejhaaGreatFitsC
import Derived.Test.YtjggklfegcejhaaGreatAnyM
import Derived.Test.YtjggklfegcejhaaGreatWRefM
import Derived.Deep.Upon
import Derived.Deep.OwnRows
import Derived.Deep.DeepCutAuto
import Derived.Test.YtjggklfegcejhaaGreatDictKey
import Derived.Test.YtjggklfegcejhaaGreatFitsA
import Derived.Test.YtjggklfegcejhaaGreatFitsM
import Derived.Laws.Tables
import Derived.Test.YtjggklfegcejhaaGreatNounKey
import Derived.Test.YtjggklfegcejhaaGreatTab
namespace Go.Proofs.YtjggklfegcejhaaGreat
open Go.RowKit Go.PlainAid
set_option linter.unusedVariables false
set_option linter.unusedSimpArgs false

/-- Two phrases are the same. -/
def sameP (p q : PhC) : Bool := decide (p.us = q.us ∧ p.er = q.er ∧ p.th = q.th)
theorem same_eq {p q : PhC} (h1 : p.us = q.us) (h2 : p.er = q.er) (h3 : p.th = q.th) : sameP p q = true := by unfold sameP; simp [h1, h2, h3]
theorem same_us {p q : PhC} (h1 : p.us ≠ q.us) : sameP p q = false := by unfold sameP; simp [h1]
theorem same_er {p q : PhC} (h1 : p.er ≠ q.er) : sameP p q = false := by unfold sameP; simp [h1]
theorem same_th {p q : PhC} (h1 : p.th ≠ q.th) : sameP p q = false := by unfold sameP; simp [h1]
theorem sameP_self (p : PhC) : sameP p p = true := same_eq rfl rfl rfl
set_option maxRecDepth 100000 in
theorem same36 (p r : PhC) (a1 a2 : Option Addr) (c1 c2 : Nat) (w : World) (h1 : Ints w (.slice a1 p.th.length c1) p.th) (h2 : Ints w (.slice a2 r.th.length c2) r.th) :
    Calls Tryz.prog 9 #[.agg #[.slice a1 p.th.length c1, .int .i64 p.us, .int .i64 p.er], .agg #[.slice a2 r.th.length c2, .int .i64 r.us, .int .i64 r.er]] w fun e w' => e = .returned (.bool (sameP p r)) ∧ Below w.heap.size w w' := by
 obtain ⟨W0, hW0⟩ : ∃ W0, (w.alloc (.cells #[.slice a1 p.th.length c1, .int .i64 p.us, .int .i64 p.er] 36)).alloc (.cells #[.slice a2 r.th.length c2, .int .i64 r.us, .int .i64 r.er] 36) = W0 := ⟨_, rfl⟩
 have HK1 : Hid (BK W0 w.heap.size [.slice a1 p.th.length c1, .int .i64 p.us, .int .i64 p.er] 36) := Lib.hid (by rw [← hW0]; exact (BK.new w _ _).alloc _)
 have HK2 : Hid (BK W0 (w.heap.size + 1) [.slice a2 r.th.length c2, .int .i64 r.us, .int .i64 r.er] 36) := Lib.hid (by
  rw [← hW0]
  have := BK.new (w.alloc (.cells #[.slice a1 p.th.length c1, .int .i64 p.us, .int .i64 p.er] 36)) [.slice a2 r.th.length c2, .int .i64 r.us, .int .i64 r.er] 36
  rwa [World.size_alloc] at this)
 have HB0 : Hid (Below w.heap.size w W0) := Lib.hid (by rw [← hW0]; exact bl_a (bl_a (Below.refl _ _) _) _)
 have HI1 := Lib.hid (h1.below HB0.out)
 have HI2 := Lib.hid (h2.below HB0.out)
 obtain ⟨R, hR⟩ : ∃ R, sameP p r = R := ⟨_, rfl⟩
 have HR := Lib.hid hR
 rw [hR]
 clear hR h1 h2
 obtain ⟨l1, u1, r1⟩ := p
 obtain ⟨l2, u2, r2⟩ := r
 dsimp only at *
 obtain ⟨n1, hn1⟩ : ∃ n, l1.length = n := ⟨_, rfl⟩
 obtain ⟨n2, hn2⟩ : ∃ n, l2.length = n := ⟨_, rfl⟩
 have hm1 : n1 ≤ maxLen := by obtain ⟨_, _, _, h, _⟩ := HI1.out; omega
 unfold maxLen at hm1
 have HN1 := Lib.hid hn1
 have HN2 := Lib.hid hn2
 rw [hn1] at HK1 HI1 hW0 ⊢
 rw [hn2] at HK2 HI2 hW0 ⊢
 clear hn1 hn2
 have c0 := HK1.out.cell 0
 have c1' := HK1.out.cell 1
 have c2' := HK1.out.cell 2
 have d0 := HK2.out.cell 0
 have d1 := HK2.out.cell 1
 have d2 := HK2.out.cell 2
 simp only [List.getElem?_cons_zero, List.getElem?_cons_succ] at c0 c1' c2' d0 d1 d2
 go_enter Tryz.func9, Tryz.ntmps9
 by_cases hu : u1 = u2
 · subst hu
   by_cases hr : r1 = r2
   · subst hr
     by_cases hn : n1 = n2
     · subst hn
       go_wp2_with fail
       clear hW0
       clear c0 c1' c2' d0 d1 d2
       go_loopw [5] (fun iv wr => ∃ i : Nat, iv = .int .i64 i ∧ i ≤ n1 ∧ Hid (∀ j (h1 : j < l1.length) (h2 : j < l2.length), j < i → l1[j] = l2[j]) ∧ Hid (Below W0.heap.size W0 wr)) (fun iv _ => n1 - (intOf iv).toNat)
       case atStart => exact ⟨0, rfl, Nat.zero_le _, Lib.hid (fun j _ _ h => by omega), Lib.hid (Below.refl _ _)⟩
       case round =>
        obtain ⟨i, rfl, hi, HE, HBL⟩ := hrel
        have HK1r := Lib.hid (HK1.out.below HBL.out)
        have HK2r := Lib.hid (HK2.out.below HBL.out)
        have HI1r := Lib.hid (HI1.out.below HBL.out)
        have HI2r := Lib.hid (HI2.out.below HBL.out)
        have HB9 := Lib.hid (bl_then HB0.out HBL.out)
        have c0 := HK1r.out.cell 0
        have d0 := HK2r.out.cell 0
        simp only [List.getElem?_cons_zero, List.getElem?_cons_succ] at c0 d0
        by_cases hlt : i < n1
        · have hi1 : i < l1.length := by rw [HN1.out]; exact hlt
          have hi2 : i < l2.length := by rw [HN2.out]; exact hlt
          obtain ⟨b1, o1, rfl, hb1, hc1⟩ := HI1r.out.at2 (by omega)
          obtain ⟨b2, o2, rfl, hb2, hc2⟩ := HI2r.out.at2 (by omega)
          have g1 := hc1 i hi1
          have g2 := hc2 i hi2
          have HX : Hid (∀ x y, l1[i] = x → l2[i] = y → x ≠ y → R = false) := Lib.hid (fun x y e1 e2 hne => by
           rw [← HR.out]; refine same_th (fun e => hne ?_)
           dsimp only at e; subst e; rw [← e1, ← e2])
          have HY : Hid (∀ x, l1[i] = x → l2[i] = x → ∀ j (h1 : j < l1.length) (h2 : j < l2.length), j < i + 1 → l1[j] = l2[j]) := Lib.hid (fun x e1 e2 j h1 h2 hj => by
           by_cases e : j = i
           · subst e; rw [e1, e2]
           · exact HE.out j h1 h2 (by omega))
          obtain ⟨x, hx⟩ : ∃ x, l1[i] = x := ⟨_, rfl⟩
          obtain ⟨y, hy⟩ : ∃ y, l2[i] = y := ⟨_, rfl⟩
          rw [hx] at g1
          rw [hy] at g2
          have HXY := Lib.hid (HX.out x y hx hy)
          have HYX := Lib.hid (fun (e : x = y) => HY.out x hx (by rw [e]; exact hy))
          clear hc1 hc2 hx hy HX HY
          by_cases hxy : x = y
          · have HE2 := Lib.hid (HYX.out hxy)
            subst hxy
            go_wp2_with fail
            go_quiet (fail)
            go_wp2_with fail
            go_roundw
            case rel => exact ⟨i + 1, by go_num, by omega, HE2, Lib.hid (bl_drewN HBL.out _)⟩
            case measure => simp [intOf]; omega
          · have HRF := Lib.hid (HXY.out hxy)
            have e1 : (x == y) = false := by simp [hxy]
            have e2 : (x != y) = true := by simp [hxy]
            clear hxy
            go_wp2_with fail
            go_quiet (fail)
            go_wp2_with fail
            go_ret
            exact ⟨by rw [HRF.out]; rfl, bl_drewN HB9.out _⟩
        · have HRT : Hid (R = true) := Lib.hid (by
            rw [← HR.out]
            refine same_eq rfl rfl (List.ext_getElem (by rw [HN1.out, HN2.out]) (fun j h1 h2 => HE.out j h1 h2 (by rw [HN1.out] at h1; omega)))
            )
          go_wp2_with fail
          go_ret
          exact ⟨by rw [HRT.out]; rfl, HB9.out⟩
     · have HRF : Hid (R = false) := Lib.hid (by rw [← HR.out]; exact same_th (fun e => hn (by dsimp only at e; rw [← HN1.out, ← HN2.out, e])))
       have e1 : ((n1 : Int) == (n2 : Int)) = false := by simp; omega
       have e2 : ((n1 : Int) != (n2 : Int)) = true := by simp; omega
       go_wp2_with fail
       go_ret
       exact ⟨by rw [HRF.out]; rfl, HB0.out⟩
   · have HRF : Hid (R = false) := Lib.hid (by rw [← HR.out]; exact same_er hr)
     have e1 : (r1 == r2) = false := by simp [hr]
     have e2 : (r1 != r2) = true := by simp [hr]
     go_wp2_with fail
     go_ret
     exact ⟨by rw [HRF.out]; rfl, HB0.out⟩
 · have HRF : Hid (R = false) := Lib.hid (by rw [← HR.out]; exact same_us hu)
   have e1 : ((u1 : Int) == (u2 : Int)) = false := by simp; omega
   have e2 : ((u1 : Int) != (u2 : Int)) = true := by simp; omega
   go_wp2_with fail
   go_ret
   exact ⟨by rw [HRF.out]; rfl, HB0.out⟩
/-- The first thing from i on whose parent is p; 0: none. -/
def afterI (ps : List Int) (p : Int) : Nat → Nat → Int
 | 0, _ => 0
 | f + 1, i => if ps[i]? = some p then (i : Int) else afterI ps p f (i + 1)
set_option maxRecDepth 100000 in
theorem refAfter (x : TAd) (t : TbC) (i : Nat) (p : Int) (w : World) (ht : TabIs w x t) (hi : i ≤ t.th.length) :
    Calls Tryz.prog 96 #[tabV x t, .int .i64 i, .int .i64 p] w fun e w' => e = .returned (.int .i64 (afterI (t.th.map (·.pa)) p (t.th.length - i) i)) ∧ Below w.heap.size w w' := by
 have HB0 := Lib.hid (bl_tab w x t)
 have HK0 : Hid (BK (tabW w x t) w.heap.size (tabC x t) 28) := Lib.hid (BK.new w (tabC x t) 28)
 obtain ⟨W0, hW0⟩ : ∃ W0, tabW w x t = W0 := ⟨_, rfl⟩
 rw [hW0] at HB0 HK0
 unfold tabW tabC at hW0
 unfold tabV tabC
 have hm := reads_few ht.th
 unfold maxLen at hm
 obtain ⟨R, hR⟩ : ∃ R, afterI (t.th.map (·.pa)) p (t.th.length - i) i = R := ⟨_, rfl⟩
 have HR := Lib.hid hR
 rw [hR]
 have HTH : Hid (∀ j (h : j < t.th.length), ∃ b off, x.a8 = some ⟨b, off, none⟩ ∧ b < W0.heap.size ∧ W0.cell? ⟨b, off + j * 9 + 2, none⟩ = some (.int .i64 (t.th[j]).pa)) := Lib.hid (fun j h => by
  obtain ⟨b, off, cap, hv, hcap, hblt, hcell⟩ := th_open ht.th (by omega)
  obtain ⟨r1, r2, r3, r4, hth, hrow⟩ := hcell j h
  refine ⟨b, off, by simp at hv; exact hv.1, Nat.lt_of_lt_of_le hblt HB0.out.size, ?_⟩
  rw [HB0.out.cell (p := ⟨b, off + j * 9 + 2, none⟩) hblt, hrow 2 (by decide)]
  rfl)
 obtain ⟨n, hn⟩ : ∃ n, t.th.length = n := ⟨_, rfl⟩
 have HN := Lib.hid hn
 clear hR ht
 rw [hn] at hi hm
 obtain ⟨kt0, kt1, kt2, kt3, kt4, kt5, kt6, kt7, kt8, kt9, kt10, kt11, kt12, kt13, kt14⟩ := tab15 (HK0.out)
 rw [hn] at kt8
 clear hn
 go_enter Tryz.func96, Tryz.ntmps96
 go_wp2_with fail
 clear hW0
 go_loop [7] (fun iv => ∃ j : Nat, iv = .int .i64 j ∧ j ≤ n ∧ Hid (afterI (t.th.map (·.pa)) p (n - j) j = R)) (fun iv => n - (intOf iv).toNat)
 case atStart => exact ⟨i, rfl, hi, Lib.hid (by rw [← HN.out]; exact HR.out)⟩
 case round =>
  obtain ⟨j, rfl, hj, HJ⟩ := hrel
  by_cases hlt : j < n
  · have hjt : j < t.th.length := by rw [HN.out]; exact hlt
    obtain ⟨b, off, hx8, hbl, hcell⟩ := HTH.out j hjt
    have HSt : Hid (R = if (t.th[j]).pa = p then (j : Int) else afterI (t.th.map (·.pa)) p (n - (j + 1)) (j + 1)) := Lib.hid (by
     have h := HJ.out
     rw [show n - j = (n - (j + 1)) + 1 by omega, afterI, List.getElem?_map, List.getElem?_eq_getElem hjt] at h
     simp only [Option.map_some, Option.some.injEq] at h
     exact h.symm)
    rw [hx8] at kt8
    generalize (t.th[j]).pa = y at *
    clear hx8
    by_cases hy : y = p
    · subst hy
      have HRJ : Hid (R = (j : Int)) := Lib.hid (by rw [HSt.out, if_pos rfl])
      go_wp2_with fail
      go_ret
      exact ⟨by rw [HRJ.out]; rfl, HB0.out⟩
    · have HRJ : Hid (afterI (t.th.map (·.pa)) p (n - (j + 1)) (j + 1) = R) := Lib.hid (by rw [HSt.out, if_neg hy])
      have e1 : (y == p) = false := by simp [hy]
      go_wp2_with fail
      go_round
      case rel => exact ⟨j + 1, by go_num, by omega, HRJ⟩
      case measure => simp [intOf]; omega
  · have HRJ : Hid (R = 0) := Lib.hid (by rw [← HJ.out, show n - j = 0 by omega]; rfl)
    go_wp2_with fail
    go_ret
    exact ⟨by rw [HRJ.out]; rfl, HB0.out⟩
end Go.Proofs.YtjggklfegcejhaaGreat
namespace Go.Proofs.YtjggklfegcejhaaGreat
open Go.RowKit Go.PlainAid Go.Deep
set_option linter.unusedVariables false
set_option linter.unusedSimpArgs false

theorem refSeed (n : Int) (w : World) : Calls Tryz.prog 95 #[.int .i64 n] w fun e w' => ∃ s, e = .returned (.int .u64 s) ∧ w = w' := by
 go_enter Tryz.func95, Tryz.ntmps95
 go_wp2
 all_goals
  go_ret
  try exact ⟨_, rfl, rfl⟩
theorem ints_src {w : World} {b o n c : Nat} {L : List Int} (h : Ints w (.slice (some ⟨b, o, none⟩) n c) L) : ∀ j u, (L.map (Value.int .i64))[j]? = some u → w.cell? ((⟨b, o, none⟩ : Addr).add j) = some u := fun j u hj => by
 have hjl : j < L.length := by have := (List.getElem?_eq_some_iff.1 hj).1; simpa using this
 obtain ⟨b', o', e, hb, hc⟩ := h.at2 (by omega)
 simp only [Option.some.injEq, Addr.mk.injEq, and_true] at e
 obtain ⟨rfl, rfl⟩ := e
 have h1 := hc j hjl
 rw [List.getElem?_map, List.getElem?_eq_getElem hjl] at hj
 simp only [Option.map_some, Option.some.injEq] at hj
 rw [← hj, ← h1]
 congr 1
 simp [Addr.add]
 try (intro h; omega)
/-- Numbers are appended to a row of one's own: as a run. -/
theorem app_ints (w : World) (base : Nat) (v : Value) (n : Nat) (xs : List Value) (hown : w.ownsRow base 3 1 v n xs) (sa : Option Addr) (sc : Nat) (L : List Int) (hs : Ints w (.slice sa L.length sc) L)
    (h63 : n + L.length ≤ 1000000) (hbase : base ≤ w.heap.size) (ty : TypeId) :
    ∃ v' w', (Builtin.append_ #[23, 23] ty #[v, .slice sa L.length sc]).run Tryz.prog w = .ok v' w' ∧ w'.ownsRow base 3 1 v' (n + L.length) (xs ++ L.map (.int .i64)) ∧ w.grownBy w' v.ownBlock ∧ (v'.ownBlock = v.ownBlock ∨ v'.ownBlock = some w.heap.size) := by
 obtain ⟨i0, hi, hi1, hi2, hi3⟩ := info_parts info_intR
 have hoc : ∀ u ∈ L.map (Value.int .i64), u.oneCell' = true := by intro u hu; obtain ⟨z, _, rfl⟩ := List.mem_map.1 hu; rfl
 by_cases h0 : L = []
 · subst h0
   obtain ⟨a, c, rfl⟩ := ow_shape hown
   have hle : n ≤ c := by
    rcases hown.2 with ⟨h1, h2⟩ | ⟨g, cap, cur, h1, _, _, h4, _⟩
    · omega
    · simp only [Value.slice.injEq] at h1; omega
   refine ⟨_, w, run_append_nothing w 23 23 ty 3 i0 Tryz.underlying23 hi a n c hle _ ?_, by simpa using hown, gr_refl _ _, .inl rfl⟩
   cases sa with
   | none => exact Src.ofNil w Tryz.underlying23 sc
   | some ad => exact Src.ofSlice w Tryz.underlying23 ad 0 sc [] (by simp) (fun j u h => by simp at h) (fun u h => by simp at h)
 · have hp : 0 < L.length := by cases L with | nil => exact absurd rfl h0 | cons a l => simp
   obtain ⟨b, o, rfl, hb, hc⟩ := hs.at2 hp
   obtain ⟨v', w', hr, h2, h3, _, h5⟩ := run_append_own_at (P := Tryz.prog) w base 23 ty 3 i0 (.int .i64 0) 1 8 Tryz.underlying23 hi hi1 hi2 hi3 rfl (by decide) v n xs hown ⟨b, o, none⟩ L.length sc (L.map (.int .i64)) (by simp) (ints_src hs) hoc (by unfold maxLen; omega) (by omega) hbase
   exact ⟨v', w', hr, h2, h3, h5⟩
/-- Numbers are appended to an empty literal. -/
theorem app_lit (w : World) (base g : Nat) (hown : w.ownsRow base 3 1 (.slice (some ⟨g, 0, none⟩) 0 0) 0 []) (sa : Option Addr) (sc : Nat) (L : List Int) (hs : Ints w (.slice sa L.length sc) L)
    (h63 : L.length ≤ 1000000) (hbase : base ≤ w.heap.size) (ty : TypeId) :
    ∃ v' w', (Builtin.append_ #[23, 23] ty #[.slice (some ⟨g, 0, none⟩) 0 0, .slice sa L.length sc]).run Tryz.prog w = .ok v' w' ∧ (∃ a c, v' = .slice a L.length c) ∧ w'.ownsRow base 3 1 v' L.length (L.map (.int .i64)) ∧ Below w.heap.size w w' := by
 obtain ⟨v', w', hr, h2, h3, h4⟩ := app_ints w base _ 0 [] hown sa sc L hs (by omega) hbase ty
 rw [Nat.zero_add, List.nil_append] at h2
 refine ⟨v', w', hr, ow_shape h2, h2, ?_⟩
 obtain ⟨i0, hi, hi1, hi2, hi3⟩ := info_parts info_intR
 by_cases h0 : L = []
 · subst h0
   have hx : Src Tryz.prog i0.size 23 (.slice sa 0 sc) 0 [] w := by
    cases sa with
    | none => exact Src.ofNil w Tryz.underlying23 sc
    | some ad => exact Src.ofSlice w Tryz.underlying23 ad 0 sc [] (by simp) (fun j u h => by simp at h) (fun u h => by simp at h)
   have hr2 := run_append_nothing w 23 23 ty 3 i0 Tryz.underlying23 hi (some ⟨g, 0, none⟩) 0 0 (Nat.le_refl _) _ hx
   rw [List.length_nil, hr2] at hr
   simp only [Result.ok.injEq] at hr
   rw [← hr.2]; exact Below.refl _ _
 · have hp : 0 < L.length := by cases L with | nil => exact absurd rfl h0 | cons a l => simp
   obtain ⟨b, o, rfl, hb, hc⟩ := hs.at2 hp
   have hoc : ∀ u ∈ L.map (Value.int .i64), u.oneCell' = true := by intro u hu; obtain ⟨z, _, rfl⟩ := List.mem_map.1 hu; rfl
   have hx : Src Tryz.prog i0.size 23 (.slice (some ⟨b, o, none⟩) L.length sc) L.length (L.map (.int .i64)) w := Src.ofSlice w Tryz.underlying23 ⟨b, o, none⟩ L.length sc _ (by rw [hi2]; simp) (ints_src hs) hoc
   have hr2 := run_append_grow_src w 23 23 ty 3 i0 (.int .i64 0) Tryz.underlying23 hi hi1 (some ⟨g, 0, none⟩) 0 0 [] (run_firstCells_some w.drew i0.size 0 ⟨g, 0, none⟩ 0 0 [] (by simp) (fun j u h => by simp at h)) _ L.length _ hx (by omega) (by omega) (by rw [hi3]; exact growslice_fits (by omega) (by omega))
   rw [hr2] at hr
   simp only [Result.ok.injEq] at hr
   rw [← hr.2]; exact (Below.refl _ _).drew.alloc (Nat.le_refl _) _
theorem run_app {P : Program} {o : Oper} {a : Act} {w w' : World} {v' v sv : Value} (s x : Operand) (t : TypeId) (ho : o.op = .call { callee := .builtin .append, args := #[s, x], argTypes := #[t, t] }) (hs : a.eval s = v) (hx : a.eval x = sv)
    (hr : (Builtin.append_ #[t, t] o.type #[v, sv]).run P w = .ok v' w') : (execOp a.eval o).run P w = .ok (.value v') w' := by
 unfold execOp
 simp only [ho, resolve, invoke, builtin, Sem.run_bind, Sem.run_pure, Result.andThen_ok, List.map_toArray, List.map_cons, List.map_nil, hs, hx, hr]
theorem flat_ones : ∀ (L : List Int), (L.map fun x => [Value.int .i64 x]).flatten = L.map (.int .i64)
 | [] => rfl
 | a :: l => by rw [List.map_cons, List.flatten_cons, flat_ones l]; rfl
/-- A row of one's own reads as its numbers. -/
theorem reads_own {w : World} {base : Nat} {v : Value} {L : List Int} (h : w.ownsRow base 3 1 v L.length (L.map (.int .i64))) (hw : ∀ x ∈ L, I64 x) (hm : L.length ≤ reachBytes) (hm2 : L.length ≤ maxLen) : Reads Cd.is w v L := by
 have hS : SLN 1 w v (L.map fun x => [Value.int .i64 x]) := by
  refine SLN.own (n := L.length) (e := 3) (base := base) ?_ (by simp) (fun r hr => by obtain ⟨x, _, rfl⟩ := List.mem_map.1 hr; rfl) hm2
  rw [flat_ones]; exact h
 obtain ⟨a, c, rfl⟩ := ow_shape h
 have hle : L.length ≤ c := by
  rcases h.2 with ⟨h1, h2⟩ | ⟨g, cap, cur, h1, _, _, h4, _⟩
  · omega
  · simp only [Value.slice.injEq] at h1; omega
 refine ⟨⟨_, _, rfl, ⟨hS, a, c, by simp, by simpa using hle⟩, by simp, fun i h1 h2 => ?_⟩, hm⟩
 simp only [List.getElem_map]
 exact ⟨rfl, hw _ (List.getElem_mem h2)⟩
/-! ### The new world's lists -/
def psT (t : TbC) : List Int := t.th.map (·.pa)
def chAt (ps : List Int) (x : Nat) : Int := if x = 0 then 0 else afterI ps x (ps.length - 1) 1
def nxAt (ps : List Int) (x : Nat) : Int := if ps.getD x 0 = 0 then 0 else afterI ps (ps.getD x 0) (ps.length - (x + 1)) (x + 1)
def dAt (t : TbC) (i : Nat) : WdC := ⟨t.gl, (psT t).take i, (List.range i).map (chAt (psT t)), (List.range i).map (nxAt (psT t)), (t.th.map (·.fl)).take i, (t.th.take i).flatMap (·.pr), List.replicate t.da.length 0⟩
def newD (t : TbC) : WdC := dAt t t.th.length
/-- The five rows of a world that grow: their values, lengths, lists. -/
def rowV (q : Wv) : Nat → Value
 | 0 => .slice q.a1 q.l1 q.c1
 | 1 => .slice q.a2 q.l2 q.c2
 | 2 => .slice q.a3 q.l3 q.c3
 | 3 => .slice q.a4 q.l4 q.c4
 | _ => .slice q.a5 q.l5 q.c5
def rowN (q : Wv) : Nat → Nat
 | 0 => q.l1
 | 1 => q.l2
 | 2 => q.l3
 | 3 => q.l4
 | _ => q.l5
def rowL (d : WdC) : Nat → List Int
 | 0 => d.pa
 | 1 => d.ch
 | 2 => d.nx
 | 3 => d.fl
 | _ => d.pr
def putR (q : Wv) (k : Nat) (a : Option Addr) (l c : Nat) : Wv := match k with
 | 0 => { q with a1 := a, l1 := l, c1 := c }
 | 1 => { q with a2 := a, l2 := l, c2 := c }
 | 2 => { q with a3 := a, l3 := l, c3 := c }
 | 3 => { q with a4 := a, l4 := l, c4 := c }
 | _ => { q with a5 := a, l5 := l, c5 := c }
def putL (d : WdC) (k : Nat) (l : List Int) : WdC := match k with
 | 0 => { d with pa := l }
 | 1 => { d with ch := l }
 | 2 => { d with nx := l }
 | 3 => { d with fl := l }
 | _ => { d with pr := l }
theorem rowV_put (q : Wv) (a : Option Addr) (l c : Nat) : ∀ (j k : Nat), j < 5 → k < 5 → rowV (putR q k a l c) j = if j = k then .slice a l c else rowV q j
 | 0, 0, _, _ | 0, 1, _, _ | 0, 2, _, _ | 0, 3, _, _ | 0, 4, _, _ | 1, 0, _, _ | 1, 1, _, _ | 1, 2, _, _ | 1, 3, _, _ | 1, 4, _, _ | 2, 0, _, _ | 2, 1, _, _ | 2, 2, _, _ | 2, 3, _, _ | 2, 4, _, _ | 3, 0, _, _ | 3, 1, _, _ | 3, 2, _, _ | 3, 3, _, _ | 3, 4, _, _ | 4, 0, _, _ | 4, 1, _, _ | 4, 2, _, _ | 4, 3, _, _ | 4, 4, _, _ => rfl
 | n + 5, _, h, _ => by omega
 | 0, n + 5, _, h | 1, n + 5, _, h | 2, n + 5, _, h | 3, n + 5, _, h | 4, n + 5, _, h => by omega
theorem rowN_put (q : Wv) (a : Option Addr) (l c : Nat) : ∀ (j k : Nat), j < 5 → k < 5 → rowN (putR q k a l c) j = if j = k then l else rowN q j
 | 0, 0, _, _ | 0, 1, _, _ | 0, 2, _, _ | 0, 3, _, _ | 0, 4, _, _ | 1, 0, _, _ | 1, 1, _, _ | 1, 2, _, _ | 1, 3, _, _ | 1, 4, _, _ | 2, 0, _, _ | 2, 1, _, _ | 2, 2, _, _ | 2, 3, _, _ | 2, 4, _, _ | 3, 0, _, _ | 3, 1, _, _ | 3, 2, _, _ | 3, 3, _, _ | 3, 4, _, _ | 4, 0, _, _ | 4, 1, _, _ | 4, 2, _, _ | 4, 3, _, _ | 4, 4, _, _ => rfl
 | n + 5, _, h, _ => by omega
 | 0, n + 5, _, h | 1, n + 5, _, h | 2, n + 5, _, h | 3, n + 5, _, h | 4, n + 5, _, h => by omega
theorem rowL_put (d : WdC) (l : List Int) : ∀ (j k : Nat), j < 5 → k < 5 → rowL (putL d k l) j = if j = k then l else rowL d j
 | 0, 0, _, _ | 0, 1, _, _ | 0, 2, _, _ | 0, 3, _, _ | 0, 4, _, _ | 1, 0, _, _ | 1, 1, _, _ | 1, 2, _, _ | 1, 3, _, _ | 1, 4, _, _ | 2, 0, _, _ | 2, 1, _, _ | 2, 2, _, _ | 2, 3, _, _ | 2, 4, _, _ | 3, 0, _, _ | 3, 1, _, _ | 3, 2, _, _ | 3, 3, _, _ | 3, 4, _, _ | 4, 0, _, _ | 4, 1, _, _ | 4, 2, _, _ | 4, 3, _, _ | 4, 4, _, _ => rfl
 | n + 5, _, h, _ => by omega
 | 0, n + 5, _, h | 1, n + 5, _, h | 2, n + 5, _, h | 3, n + 5, _, h | 4, n + 5, _, h => by omega
theorem worldC_put (q : Wv) (a : Option Addr) (l c : Nat) : ∀ (k : Nat), k < 5 → (worldC q).set (k + 1) (.slice a l c) = worldC (putR q k a l c)
 | 0, _ | 1, _ | 2, _ | 3, _ | 4, _ => rfl
 | n + 5, h => by omega
def zeroW : List Value := [.slice none 0 0, .slice none 0 0, .slice none 0 0, .slice none 0 0, .slice none 0 0, .slice none 0 0, .slice none 0 0, .int .u64 0, .int .i64 0, .int .i64 0, .int .i64 0, .int .i64 0, .int .i64 0]
/-- A list that came to be before, away from the block B. -/
structure OldL (W2 : World) (s B : Nat) (a : Option Addr) (l c : Nat) (L : List Int) : Prop where
 ln : l = L.length
 rd : Reads Cd.is W2 (.slice a l c) L
 far : ∀ b o, a = some ⟨b, o, none⟩ → 0 < L.length → b ≠ B ∧ s + 2 ≤ b
/-- What lies between two rounds. -/
structure NSt (x : TAd) (t : TbC) (w W2 : World) (B : Nat) (wr : World) (q : Wv) (d : WdC) : Prop where
 bt : BK wr w.heap.size (tabC x t) 28
 br : BK wr (w.heap.size + 1) zeroW 31
 bw : BK wr B (worldC q) 31
 hB : w.heap.size + 2 ≤ B
 hBF : B < W2.heap.size
 hW : W2.heap.size ≤ wr.heap.size
 own : ∀ k, k < 5 → wr.ownsRow W2.heap.size 3 1 (rowV q k) (rowN q k) ((rowL d k).map (.int .i64))
 dis : ∀ j k, j < 5 → k < 5 → j ≠ k → ∀ b, (rowV q j).ownBlock = some b → (rowV q k).ownBlock ≠ some b
 bl : Below w.heap.size w wr
 bn : But W2.heap.size [B] W2 wr
 gl : OldL W2 w.heap.size B q.a0 q.l0 q.c0 d.gl
 ti : OldL W2 w.heap.size B q.a6 q.l6 q.c6 d.ti
theorem putR_a0 (q : Wv) (k : Nat) (a : Option Addr) (l c : Nat) : (putR q k a l c).a0 = q.a0 ∧ (putR q k a l c).l0 = q.l0 ∧ (putR q k a l c).c0 = q.c0 ∧ (putR q k a l c).a6 = q.a6 ∧ (putR q k a l c).l6 = q.l6 ∧ (putR q k a l c).c6 = q.c6 := by
 unfold putR; split <;> exact ⟨rfl, rfl, rfl, rfl, rfl, rfl⟩
theorem putL_gl (d : WdC) (k : Nat) (l : List Int) : (putL d k l).gl = d.gl ∧ (putL d k l).ti = d.ti := by
 unfold putL; split <;> exact ⟨rfl, rfl⟩
theorem NSt.below {x : TAd} {t : TbC} {w W2 : World} {B : Nat} {wr w' : World} {q : Wv} {d : WdC} (h : NSt x t w W2 B wr q d) (hb : Below wr.heap.size wr w') : NSt x t w W2 B w' q d :=
 ⟨h.bt.below hb, h.br.below hb, h.bw.below hb, h.hB, h.hBF, Nat.le_trans h.hW hb.size, fun k hk => ow_below (h.own k hk) hb, h.dis, bl_then h.bl hb, h.bn.below (hb.mono h.hW), h.gl, h.ti⟩
/-- A row is kept while another one grows. -/
theorem NSt.mid {x : TAd} {t : TbC} {w W2 : World} {B : Nat} {wr w3 : World} {q : Wv} {d : WdC} (h : NSt x t w W2 B wr q d) {k : Nat} (hk : k < 5) (hg : wr.grownBy w3 (rowV q k).ownBlock) :
    BK w3 w.heap.size (tabC x t) 28 ∧ BK w3 (w.heap.size + 1) zeroW 31 ∧ BK w3 B (worldC q) 31 := by
 have hlo : ∀ j, (rowV q k).ownBlock = some j → W2.heap.size ≤ j := fun j hj => ow_lo (h.own k hk) j hj
 have h1 := h.hB
 have h2 := h.hBF
 exact ⟨h.bt.kept hg (fun j hj => by have := hlo j hj; omega), h.br.kept hg (fun j hj => by have := hlo j hj; omega), h.bw.kept hg (fun j hj => by have := hlo j hj; omega)⟩
theorem NSt.put {x : TAd} {t : TbC} {w W2 : World} {B : Nat} {wr w3 : World} {q : Wv} {d : WdC} (h : NSt x t w W2 B wr q d) {k : Nat} (hk : k < 5) (hg : wr.grownBy w3 (rowV q k).ownBlock) {a : Option Addr} {m c : Nat} {L : List Int}
    (hown : w3.ownsRow W2.heap.size 3 1 (.slice a m c) m (L.map (.int .i64))) (hl : (Value.slice a m c).ownBlock = (rowV q k).ownBlock ∨ ∀ b, (Value.slice a m c).ownBlock = some b → wr.heap.size ≤ b) :
    NSt x t w W2 B (w3.setCell ⟨B, k + 1, none⟩ (.slice a m c)) (putR q k a m c) (putL d k L) := by
 have hlo : ∀ j, (rowV q k).ownBlock = some j → W2.heap.size ≤ j := fun j hj => ow_lo (h.own k hk) j hj
 have h1 := h.hB
 have h2 := h.hBF
 have h3 := h.hW
 obtain ⟨m1, m2, m3⟩ := h.mid hk hg
 obtain ⟨e1, e2, e3, e4, e5, e6⟩ := putR_a0 q k a m c
 obtain ⟨e7, e8⟩ := putL_gl d k L
 have hbg : Below W2.heap.size wr w3 := (Below.refl W2.heap.size wr).grown hg h3 hlo
 have hne : ∀ j, j < 5 → j ≠ k → ∀ b, (rowV q j).ownBlock = some b → (Value.slice a m c).ownBlock ≠ some b := fun j hj hjk b hb he => by
  rcases hl with h' | h'
  · exact h.dis j k hj hk hjk b hb (by rw [← h']; exact he)
  · have := h' b he; have := ((h.own j hj).lt b hb).2; omega
 refine ⟨m1.setO (by omega) _ _, m2.setO (by omega) _ _, ?_, h1, h2, ?_, fun j hj => ?_, fun i j hi hj hij b hb => ?_, bl_s (h.bl.trans (hbg.mono (by omega))) _ _ (by omega), (h.bn.below hbg).set (List.mem_singleton.2 rfl) _ _, ?_, ?_⟩
 · have := m3.set (k + 1) (.slice a m c)
   rwa [worldC_put q a m c k hk] at this
 · have := hbg.size; simp only [World.setCell, Array.size_modify]; omega
 · rw [rowV_put q a m c j k hj hk, rowN_put q a m c j k hj hk, rowL_put d L j k hj hk]
   by_cases e : j = k
   · simp only [if_pos e]
     exact hown.kept (gr_set w3 B (k + 1) (.slice a m c)) (.inr (fun e => by have := ow_lo hown _ e; omega))
   · simp only [if_neg e]
     have ho := h.own j hj
     have hk3 := ho.kept hg (by
      cases hb : (rowV q j).ownBlock with
      | none => exact .inl rfl
      | some b => exact .inr (fun e' => h.dis j k hj hk e b hb e'.symm))
     exact hk3.kept (gr_set w3 B (k + 1) (.slice a m c)) (.inr (fun e' => by have := ow_lo ho _ e'; omega))
 · rw [rowV_put q a m c i k hi hk] at hb
   rw [rowV_put q a m c j k hj hk]
   by_cases e : i = k
   · rw [if_pos e] at hb
     have e2 : j ≠ k := fun e3 => hij (by rw [e, e3])
     rw [if_neg e2]
     exact fun h9 => hne j hj e2 b h9 hb
   · rw [if_neg e] at hb
     by_cases e2 : j = k
     · rw [if_pos e2]; exact hne i hi e b hb
     · rw [if_neg e2]; exact h.dis i j hi hj hij b hb
 · rw [e1, e2, e3, e7]; exact h.gl
 · rw [e4, e5, e6, e8]; exact h.ti
theorem reads_but {w w' : World} {a : Option Addr} {l c : Nat} {L : List Int} {S : List Nat} (h : Reads Cd.is w (.slice a l c) L) (hb : But w.heap.size S w w') (hs : ∀ b o, a = some ⟨b, o, none⟩ → 0 < L.length → b ∉ S) : Reads Cd.is w' (.slice a l c) L := by
 obtain ⟨⟨v, rows, e, ⟨⟨h1, h2, h3⟩, h4⟩, h5, h6⟩, h7⟩ := h
 obtain rfl : Value.slice a l c = v := by simpa using e
 refine ⟨⟨_, rows, rfl, ⟨⟨h1, h2, ?_⟩, h4⟩, h5, h6⟩, h7⟩
 rcases h3 with h3 | ⟨b, off, c', he, hlt, hc⟩
 · exact .inl h3
 · refine .inr ⟨b, off, c', he, Nat.lt_of_lt_of_le hlt hb.size, fun i j hi hj => ?_⟩
   simp only [Value.slice.injEq] at he
   exact (hb.cell hlt (hs b off he.1 (by omega))).trans (hc i j hi hj)
theorem afterI_in (ps : List Int) (p : Int) : ∀ f i, 0 ≤ afterI ps p f i ∧ afterI ps p f i ≤ (f + i : Nat)
 | 0, i => ⟨Int.le_refl _, by show (0 : Int) ≤ _; omega⟩
 | f + 1, i => by
   unfold afterI
   split
   · exact ⟨by omega, by omega⟩
   · have := afterI_in ps p f (i + 1)
     exact ⟨this.1, by have := this.2; omega⟩
theorem i64_small {n : Int} (h0 : 0 ≤ n) (h1 : n ≤ 1000000) : I64 n := by
 show (decide (IntKind.i64.min ≤ n) && decide (n ≤ IntKind.i64.max)) = true
 have e1 : IntKind.i64.min = -9223372036854775808 := rfl
 have e2 : IntKind.i64.max = 9223372036854775807 := rfl
 rw [e1, e2, Bool.and_eq_true, decide_eq_true_eq, decide_eq_true_eq]
 omega
theorem chAt_i64 {ps : List Int} (h : ps.length ≤ 128) (x : Nat) : I64 (chAt ps x) := by
 unfold chAt
 split
 · exact i64_small (Int.le_refl _) (by decide)
 · have := afterI_in ps x (ps.length - 1) 1
   exact i64_small this.1 (by omega)
theorem nxAt_i64 {ps : List Int} (h : ps.length ≤ 128) {x : Nat} (hx : x < ps.length) : I64 (nxAt ps x) := by
 unfold nxAt
 split
 · exact i64_small (Int.le_refl _) (by decide)
 · have := afterI_in ps (ps.getD x 0) (ps.length - (x + 1)) (x + 1)
   exact i64_small this.1 (by omega)
end Go.Proofs.YtjggklfegcejhaaGreat
namespace Go.Proofs.YtjggklfegcejhaaGreat
open Go.RowKit Go.PlainAid Go.Deep
set_option linter.unusedVariables false
set_option linter.unusedSimpArgs false

theorem made_zero (n : Nat) : (madeCells #[Value.int .i64 0] n).toList = (List.replicate n (0 : Int)).map (.int .i64) := by
 apply List.ext_getElem
 · simp [madeCells]
 · intro i h1 h2
   simp [madeCells, Nat.mod_one]
theorem own_far {w : World} {base n B : Nat} {v : Value} {xs cs : List Value} (h : w.ownsRow base 3 1 v n xs) (hb : BK w B cs 31) : v.ownBlock ≠ some B := fun e => by
 rcases h.2 with ⟨h1, _⟩ | ⟨g, cap, cur, h1, _, h3, _⟩
 · subst h1; cases e
 · subst h1
   have : g = B := Option.some.inj e
   subst this
   unfold BK at hb
   rw [h3] at hb
   simp at hb
theorem dAt_succ {t : TbC} {i : Nat} (h : i < t.th.length) : dAt t (i + 1) = putL (putL (putL (putL (putL (dAt t i) 0 ((dAt t i).pa ++ [(t.th[i]).pa])) 1 ((dAt t i).ch ++ [chAt (psT t) i])) 2 ((dAt t i).nx ++ [nxAt (psT t) i])) 3 ((dAt t i).fl ++ [(t.th[i]).fl])) 4 ((dAt t i).pr ++ (t.th[i]).pr) := by
 have h1 : (psT t).take (i + 1) = (psT t).take i ++ [(t.th[i]).pa] := by
  rw [List.take_succ_eq_append_getElem (by unfold psT; rw [List.length_map]; exact h)]; unfold psT; simp
 have h2 : (t.th.map (·.fl)).take (i + 1) = (t.th.map (·.fl)).take i ++ [(t.th[i]).fl] := by
  rw [List.take_succ_eq_append_getElem (by rw [List.length_map]; exact h)]; simp
 have h3 : (t.th.take (i + 1)).flatMap (·.pr) = (t.th.take i).flatMap (·.pr) ++ (t.th[i]).pr := by
  rw [List.take_succ_eq_append_getElem h, List.flatMap_append]; simp
 unfold dAt
 simp only [putL, h1, h2, h3, List.range_succ, List.map_append, List.map_cons, List.map_nil]
theorem sk_alloc {w : World} {r : Option Nat} (o : Obj) : w.heap.size ≤ ((w.alloc o).drew).heap.size ∧ ∀ z, z < w.heap.size → r ≠ some z → ((w.alloc o).drew).heap[z]? = w.heap[z]? :=
 ⟨by show _ ≤ (w.alloc o).heap.size; rw [World.size_alloc]; omega, fun z hz _ => Below.heap_alloc _ _ _ hz⟩
theorem sk_then {w Wa w3 : World} {r : Option Nat} (h : w.heap.size ≤ Wa.heap.size ∧ ∀ z, z < w.heap.size → r ≠ some z → Wa.heap[z]? = w.heap[z]?) (hg : Wa.grownBy w3 r) : w.heap.size ≤ w3.heap.size ∧ ∀ z, z < w.heap.size → r ≠ some z → w3.heap[z]? = w.heap[z]? :=
 ⟨Nat.le_trans h.1 hg.size, fun z hz hr => (hg.block z (Nat.lt_of_lt_of_le hz h.1) (fun e => hr e.symm)).trans (h.2 z hz hr)⟩
theorem app_lie {v : Value} {g n c H : Nat} (h : v.ownBlock = some g ∨ g = H) : (Value.slice (some ⟨g, 0, none⟩) n c).ownBlock = v.ownBlock ∨ ∀ b, (Value.slice (some ⟨g, 0, none⟩) n c).ownBlock = some b → H ≤ b := by
 rcases h with h | h
 · exact .inl h.symm
 · exact .inr (fun b hb => by have := Option.some.inj (show some g = some b from hb); omega)
/-- A world's lists lie in blocks from B on. -/
structure WFar (B : Nat) (q : Wv) (d : WdC) : Prop where
 f0 : ∀ b o, q.a0 = some ⟨b, o, none⟩ → 0 < d.gl.length → B ≤ b
 f1 : ∀ b o, q.a1 = some ⟨b, o, none⟩ → 0 < d.pa.length → B ≤ b
 f2 : ∀ b o, q.a2 = some ⟨b, o, none⟩ → 0 < d.ch.length → B ≤ b
 f3 : ∀ b o, q.a3 = some ⟨b, o, none⟩ → 0 < d.nx.length → B ≤ b
 f4 : ∀ b o, q.a4 = some ⟨b, o, none⟩ → 0 < d.fl.length → B ≤ b
 f5 : ∀ b o, q.a5 = some ⟨b, o, none⟩ → 0 < d.pr.length → B ≤ b
 f6 : ∀ b o, q.a6 = some ⟨b, o, none⟩ → 0 < d.ti.length → B ≤ b
theorem wrd_but {w w' : World} {q : Wv} {d : WdC} {B : Nat} {S : List Nat} (h : WRd w q d) (hf : WFar B q d) (hb : But w.heap.size S w w') (hs : ∀ b ∈ S, b < B) : WRd w' q d :=
 ⟨reads_but h.gl hb (fun b o e h0 hm => by have := hs b hm; have := hf.f0 b o e h0; omega), reads_but h.pa hb (fun b o e h0 hm => by have := hs b hm; have := hf.f1 b o e h0; omega), reads_but h.ch hb (fun b o e h0 hm => by have := hs b hm; have := hf.f2 b o e h0; omega),
  reads_but h.nx hb (fun b o e h0 hm => by have := hs b hm; have := hf.f3 b o e h0; omega), reads_but h.fl hb (fun b o e h0 hm => by have := hs b hm; have := hf.f4 b o e h0; omega), reads_but h.pr hb (fun b o e h0 hm => by have := hs b hm; have := hf.f5 b o e h0; omega),
  reads_but h.ti hb (fun b o e h0 hm => by have := hs b hm; have := hf.f6 b o e h0; omega), h.i1, h.i2, h.i3, h.i4, h.i5⟩
theorem new_far {x : TAd} {t : TbC} {w W2 : World} {B : Nat} {wr : World} {q : Wv} (h : NSt x t w W2 B wr q (dAt t t.th.length)) : WFar w.heap.size q (newD t) := by
 have hB := h.hB
 have hBF := h.hBF
 exact ⟨fun b o e h0 => by have := (h.gl.far b o e h0).2; omega, fun b o e _ => by have := ow_lo (h.own 0 (by decide)) b (by show (Value.slice q.a1 _ _).ownBlock = _; rw [e]; rfl); omega,
  fun b o e _ => by have := ow_lo (h.own 1 (by decide)) b (by show (Value.slice q.a2 _ _).ownBlock = _; rw [e]; rfl); omega, fun b o e _ => by have := ow_lo (h.own 2 (by decide)) b (by show (Value.slice q.a3 _ _).ownBlock = _; rw [e]; rfl); omega,
  fun b o e _ => by have := ow_lo (h.own 3 (by decide)) b (by show (Value.slice q.a4 _ _).ownBlock = _; rw [e]; rfl); omega, fun b o e _ => by have := ow_lo (h.own 4 (by decide)) b (by show (Value.slice q.a5 _ _).ownBlock = _; rw [e]; rfl); omega,
  fun b o e h0 => by have := (h.ti.far b o e h0).2; omega⟩
/-- What the new world reads as. -/
theorem new_reads {x : TAd} {t : TbC} {w W2 : World} {B : Nat} {wr Wf : World} {q : Wv} (h : NSt x t w W2 B wr q (dAt t t.th.length)) (hg : wr.grownBy Wf (some (w.heap.size + 1))) (hn : t.th.length ≤ 128)
    (hp : ∀ y ∈ t.th, I64 y.pa ∧ I64 y.fl ∧ (∀ v ∈ y.pr, I64 v) ∧ y.pr.length ≤ 16) (hl : q.l5 ≤ 16 * t.th.length) (e1 : q.l1 = t.th.length := by rfl) (e2 : q.l2 = t.th.length := by rfl) (e3 : q.l3 = t.th.length := by rfl) (e4 : q.l4 = t.th.length := by rfl)
    (hs : q.sc = 0 ∧ q.tu = 0 ∧ q.ov = 0 ∧ q.it = 0 ∧ q.go = 0 := by exact ⟨rfl, rfl, rfl, rfl, rfl⟩) : WRd Wf q (newD t) := by
 have hB := h.hB
 have hBF := h.hBF
 have hpl : (psT t).length = t.th.length := by unfold psT; rw [List.length_map]
 have row : ∀ k, k < 5 → (∀ x ∈ rowL (newD t) k, I64 x) → (rowN q k) ≤ 3000 → Reads Cd.is Wf (rowV q k) (rowL (newD t) k) := fun k hk hw hm => by
  have ho := (h.own k hk).kept hg (by
   cases hb : (rowV q k).ownBlock with
   | none => exact .inl rfl
   | some b => exact .inr (fun e => by have := ow_lo (h.own k hk) b hb; have := Option.some.inj e; omega))
  have ho : Wf.ownsRow W2.heap.size 3 1 (rowV q k) (rowN q k) ((rowL (newD t) k).map (.int .i64)) := ho
  have hlen : (rowL (newD t) k).length = rowN q k := by have := ho.1; rw [List.length_map] at this; omega
  refine reads_own (by rw [hlen]; exact ho) hw (by rw [hlen]; unfold reachBytes; omega) (by rw [hlen]; unfold maxLen; omega)
 have old : ∀ {a : Option Addr} {l c : Nat} {L : List Int}, OldL W2 w.heap.size B a l c L → Reads Cd.is Wf (.slice a l c) L := fun ho =>
  reads_but (S := [B, w.heap.size + 1]) ho.rd (by
   have h1 : But W2.heap.size [B, w.heap.size + 1] W2 wr := h.bn.more (fun x hx => by simp at hx; simp [hx])
   exact ⟨Nat.le_trans h1.size hg.size, fun b hb hnm => (hg.block b (Nat.lt_of_lt_of_le hb h1.size) (fun e => hnm (by have := Option.some.inj e; simp [this]))).trans (h1.blk b hb hnm)⟩) (fun b o e h0 hm => by
   have h2 := ho.far b o e h0
   simp at hm
   omega)
 obtain ⟨s1, s2, s3, s4, s5⟩ := hs
 have z : I64 0 := i64_small (Int.le_refl _) (by decide)
 refine ⟨old h.gl, row 0 (by decide) (fun v hv => ?_) (by show q.l1 ≤ _; omega), row 1 (by decide) (fun v hv => ?_) (by show q.l2 ≤ _; omega), row 2 (by decide) (fun v hv => ?_) (by show q.l3 ≤ _; omega), row 3 (by decide) (fun v hv => ?_) (by show q.l4 ≤ _; omega), row 4 (by decide) (fun v hv => ?_) (by show q.l5 ≤ _; omega), old h.ti, by rw [s1]; exact z, by rw [s2]; exact z, by rw [s3]; exact z, by rw [s4]; exact z, by rw [s5]; exact z⟩
 · have hv : v ∈ (psT t).take t.th.length := hv
   obtain ⟨y, hy, rfl⟩ := List.mem_map.1 (List.mem_of_mem_take hv)
   exact (hp y hy).1
 · have hv : v ∈ (List.range t.th.length).map (chAt (psT t)) := hv
   obtain ⟨k, _, rfl⟩ := List.mem_map.1 hv
   exact chAt_i64 (by omega) k
 · have hv : v ∈ (List.range t.th.length).map (nxAt (psT t)) := hv
   obtain ⟨k, hk, rfl⟩ := List.mem_map.1 hv
   exact nxAt_i64 (by omega) (by have := List.mem_range.1 hk; omega)
 · have hv : v ∈ (t.th.map (·.fl)).take t.th.length := hv
   obtain ⟨y, hy, rfl⟩ := List.mem_map.1 (List.mem_of_mem_take hv)
   exact (hp y hy).2.1
 · have hv : v ∈ (t.th.take t.th.length).flatMap (·.pr) := hv
   obtain ⟨y, hy, hvy⟩ := List.mem_flatMap.1 hv
   exact (hp y (List.mem_of_mem_take hy)).2.2.1 v hvy
/-- The shapes of what the first region makes. -/
def newG0 (s : Nat) (x : TAd) (t : TbC) : Nat → Value → Prop
 | 0, v => ∃ g, v = .slice (some ⟨g, 0, none⟩) 0 0
 | 1, v => v = .pointer (some ⟨s, 7, none⟩)
 | 2, v => v = .slice x.a7 t.gl.length x.c7
 | 3, v => ∃ a c, v = .slice a t.gl.length c
 | 4, v => v = .pointer (some ⟨s, 12, none⟩)
 | 5, v => v = .slice x.a12 t.da.length x.c12
 | 6, v => v = .int .i64 t.da.length
 | 7, v => ∃ g, v = .slice (some ⟨g, 0, none⟩) t.da.length t.da.length
 | 8, v => v = .pointer (some ⟨s, 2, none⟩)
 | 9, v => v = .int .i64 t.re
 | 10, v => ∃ z, v = .int .u64 z
 | 11, v => ∃ a c g z, v = .agg #[.slice a t.gl.length c, .slice none 0 0, .slice none 0 0, .slice none 0 0, .slice none 0 0, .slice none 0 0, .slice (some ⟨g, 0, none⟩) t.da.length t.da.length, .int .u64 z, .int .i64 0, .int .i64 0, .int .i64 0, .int .i64 0, .int .i64 0]
 | 12, v => ∃ B, v = .pointer (some ⟨B, 0, none⟩)
 | _, _ => True
/-- The facts on it. -/
def newGG (s : Nat) (x : TAd) (t : TbC) : Nat → Value → World → Prop
 | 0, v, w => w.ownsRow (s + 2) 3 1 v 0 []
 | 3, v, w => w.ownsRow (s + 2) 3 1 v t.gl.length (t.gl.map (.int .i64))
 | 7, v, w => w.ownsRow (s + 2) 3 1 v t.da.length ((List.replicate t.da.length (0 : Int)).map (.int .i64))
 | 11, v, w => ∀ a c g z, v = .agg #[.slice a t.gl.length c, .slice none 0 0, .slice none 0 0, .slice none 0 0, .slice none 0 0, .slice none 0 0, .slice (some ⟨g, 0, none⟩) t.da.length t.da.length, .int .u64 z, .int .i64 0, .int .i64 0, .int .i64 0, .int .i64 0, .int .i64 0] → w.ownsRow (s + 2) 3 1 (.slice a t.gl.length c) t.gl.length (t.gl.map (.int .i64)) ∧ w.ownsRow (s + 2) 3 1 (.slice (some ⟨g, 0, none⟩) t.da.length t.da.length) t.da.length ((List.replicate t.da.length (0 : Int)).map (.int .i64))
 | 12, v, w => ∀ B, v = .pointer (some ⟨B, 0, none⟩) → BK w B zeroW 31 ∧ s + 2 ≤ B
 | _, _, _ => True
theorem newGG_keep (s : Nat) (x : TAd) (t : TbC) : ∀ i v w w', Below w.heap.size w w' → newGG s x t i v w → newGG s x t i v w'
 | 0, v, w, w', hb, h => ow_below (size := 1) h hb
 | 3, v, w, w', hb, h => ow_below (size := 1) h hb
 | 7, v, w, w', hb, h => ow_below (size := 1) h hb
 | 11, v, w, w', hb, h => fun a c g z e => ⟨ow_below (h a c g z e).1 hb, ow_below (h a c g z e).2 hb⟩
 | 12, v, w, w', hb, h => fun B e => ⟨(h B e).1.below hb, (h B e).2⟩
 | 1, _, _, _, _, _ | 2, _, _, _, _, _ | 4, _, _, _, _, _ | 5, _, _, _, _, _ | 6, _, _, _, _, _ | 8, _, _, _, _, _ | 9, _, _, _, _, _ | 10, _, _, _, _, _ => trivial
 | n + 13, _, _, _, _, _ => trivial
set_option maxRecDepth 100000 in
set_option maxHeartbeats 16000000 in
theorem newC (x : TAd) (t : TbC) (w : World) (ht : TabIs w x t) (hn : t.th.length ≤ 128) (hp : ∀ y ∈ t.th, y.pr.length ≤ 16) (hg : t.gl.length ≤ 64) (hd : t.da.length ≤ 16) :
    Calls Tryz.prog 58 #[tabV x t] w fun e w' => ∃ q, e = .returned (worldV q) ∧ WRd w' q (newD t) ∧ Below w.heap.size w w' ∧ WFar w.heap.size q (newD t) := by
 obtain ⟨W0, hW0⟩ : ∃ W0, (w.alloc (.cells (tabC x t).toArray 28)).alloc (.cells zeroW.toArray 31) = W0 := ⟨_, rfl⟩
 have HBT : Hid (BK W0 w.heap.size (tabC x t) 28) := Lib.hid (by rw [← hW0]; exact (BK.new w _ _).alloc _)
 have HBR : Hid (BK W0 (w.heap.size + 1) zeroW 31) := Lib.hid (by
  rw [← hW0]
  have := BK.new (w.alloc (.cells (tabC x t).toArray 28)) zeroW 31
  rwa [World.size_alloc] at this)
 have HB0 : Hid (Below w.heap.size w W0) := Lib.hid (by rw [← hW0]; exact bl_a (bl_a (Below.refl _ _) _) _)
 have hz02 : w.heap.size + 2 ≤ W0.heap.size := HBR.out.lt
 have hz01 : w.heap.size < W0.heap.size := HBT.out.lt
 have HAF := Lib.hid (fun i p w' (hb : Below w.heap.size w w') hi => refAfter x t i p w' (ht.below hb) hi)
 have HSE := Lib.hid (fun n w' => refSeed n w')
 have HGL := Lib.hid (fun w' (hb : Below w.heap.size w w') => (ht.gl.rowI.ints).below hb)
 have HTH : Hid (∀ j (h : j < t.th.length), ∃ b off ra rc, x.a8 = some ⟨b, off, none⟩ ∧ b < w.heap.size ∧ (∀ wr, Below w.heap.size w wr → wr.cell? ⟨b, off + j * 9 + 2, none⟩ = some (.int .i64 (t.th[j]).pa) ∧ wr.cell? ⟨b, off + j * 9 + 3, none⟩ = some (.int .i64 (t.th[j]).fl) ∧ wr.cell? ⟨b, off + j * 9 + 5, none⟩ = some (.slice ra (t.th[j]).pr.length rc) ∧ Ints wr (.slice ra (t.th[j]).pr.length rc) (t.th[j]).pr)) := Lib.hid (fun j h => by
  obtain ⟨b, off, cap, hv, hcap, hblt, hcell⟩ := th_open ht.th (by omega)
  obtain ⟨r1, r2, r3, r4, hth, hrow⟩ := hcell j h
  obtain ⟨ra, rc, rfl, _⟩ := hth.pr.q.len
  refine ⟨b, off, ra, rc, by simp at hv; exact hv.1, hblt, fun wr hb => ⟨?_, ?_, ?_, hth.pr.rowI.ints.below hb⟩⟩
  · rw [hb.cell (p := ⟨b, off + j * 9 + 2, none⟩) hblt, hrow 2 (by decide)]; rfl
  · rw [hb.cell (p := ⟨b, off + j * 9 + 3, none⟩) hblt, hrow 3 (by decide)]; rfl
  · rw [hb.cell (p := ⟨b, off + j * 9 + 5, none⟩) hblt, hrow 5 (by decide)]; rfl)
 have HPW : Hid (∀ y ∈ t.th, I64 y.pa ∧ I64 y.fl ∧ (∀ v ∈ y.pr, I64 v) ∧ y.pr.length ≤ 16) := Lib.hid (fun y hy => by
  obtain ⟨j, hj, rfl⟩ := List.getElem_of_mem hy
  obtain ⟨b, off, cap, hv, hcap, hblt, hcell⟩ := th_open ht.th (by omega)
  obtain ⟨r1, r2, r3, r4, hth, hrow⟩ := hcell j hj
  refine ⟨hth.i2, hth.i3, fun v hv => ?_, hp _ hy⟩
  obtain ⟨ad, c, _, _, _, h4⟩ := hth.pr.rowI
  obtain ⟨m, hm, rfl⟩ := List.getElem_of_mem hv
  obtain ⟨_, _, _, _, _, h5⟩ := h4 m hm
  exact h5)
 have HGW : Hid (∀ v ∈ t.gl, I64 v) := Lib.hid (fun v hv => by
  obtain ⟨ad, c, _, _, _, h4⟩ := ht.gl.rowI
  obtain ⟨m, hm, rfl⟩ := List.getElem_of_mem hv
  obtain ⟨_, _, _, _, _, h5⟩ := h4 m hm
  exact h5)
 obtain ⟨i0, hi, hi1, hi2, hi3⟩ := info_parts info_intR
 have hmk := fun w => run_make_row' (P := Tryz.prog) 23 3 (.int .i64 0) 8 Tryz.underlying23 info_intR rfl .i64 .i64 t.da.length (by omega) (by omega) w
 have HMK := Lib.hid hmk
 clear hmk ht
 obtain ⟨kt0, kt1, kt2, kt3, kt4, kt5, kt6, kt7, kt8, kt9, kt10, kt11, kt12, kt13, kt14⟩ := tab15 (HBT.out)
 unfold tabV
 go_enter Tryz.func58, Tryz.ntmps58
 unfold tabC zeroW at hW0
 unfold tabC
 go_wp2_with fail
 clear hW0
 refine region_krip 13 (fun w' => Below W0.heap.size W0 w') (newG0 w.heap.size x t) (newGG w.heap.size x t) (by kernel_rfl) (by kernel_rfl) ((Below.refl _ _).drew) (newGG_keep _ _ _) (fun KK hKK => ?_)
 intro OPS
 simp only [List.take]
 refine inKrip_make rfl ⟨_, ⟨0, rfl⟩⟩ rfl (fun w' hS hF => ⟨.slice (some ⟨w'.heap.size, 0, none⟩) 0 0, w'.alloc (.cells #[] 3), ?_, ⟨_, rfl⟩, ?_, bl_a (Below.refl _ _) _, bl_then hS (bl_a (Below.refl _ _) _)⟩) ?_
 · go_simp
 · have := World.ownsRow_lit (base := w.heap.size + 2) (e := 3) (size := 1) w' #[] 0 (Nat.le_trans hz02 hS.size) (by decide) rfl
   exact this
 rintro u0 ⟨g0, rfl⟩
 simp only [Act.put, List.setIfInBounds_toArray, List.set_cons_zero, List.set_cons_succ]
 refine' inKrip_val rfl (fun _ _ => trivial) ?_ ?_ ?_ ?_
 rotate_left 1
 · rfl
 · (intro w' hS; obtain ⟨hcc, hff⟩ := bcell hS; go_simp; first | with_reducible rfl | skip)
 · (simp only [Act.put, List.setIfInBounds_toArray, List.set_cons_zero, List.set_cons_succ]; with_reducible rfl)
 refine' inKrip_val rfl (fun _ _ => trivial) ?_ ?_ ?_ ?_
 rotate_left 1
 · rfl
 · (intro w' hS; obtain ⟨hcc, hff⟩ := bcell hS; go_simp; first | with_reducible rfl | skip)
 · (simp only [Act.put, List.setIfInBounds_toArray, List.set_cons_zero, List.set_cons_succ]; with_reducible rfl)
 refine inKrip_make rfl ⟨_, ⟨none, 0, rfl⟩⟩ rfl (fun w' hS hF => ?_) ?_
 · have h0 : w'.ownsRow (w.heap.size + 2) 3 1 (.slice (some ⟨g0, 0, none⟩) 0 0) 0 [] := by
     have := hF ⟨0, .data⟩ (by simp) rfl
     exact this
   obtain ⟨v', w'', hr, hsh, hown, hbl⟩ := app_lit w' (w.heap.size + 2) g0 h0 x.a7 x.c7 t.gl (HGL.out w' (bl_then HB0.out hS)) (by omega) (Nat.le_trans hz02 hS.size) 23
   refine ⟨v', w'', ?_, hsh, hown, hbl, bl_then hS hbl⟩
   exact run_app (.tmp 8) (.tmp 10) 23 rfl rfl rfl hr
 rintro u3 ⟨ga, gc, rfl⟩
 simp only [Act.put, List.setIfInBounds_toArray, List.set_cons_zero, List.set_cons_succ]
 refine' inKrip_val rfl (fun _ _ => trivial) ?_ ?_ ?_ ?_
 rotate_left 1
 · rfl
 · (intro w' hS; obtain ⟨hcc, hff⟩ := bcell hS; go_simp; first | with_reducible rfl | skip)
 · (simp only [Act.put, List.setIfInBounds_toArray, List.set_cons_zero, List.set_cons_succ]; with_reducible rfl)
 refine' inKrip_val rfl (fun _ _ => trivial) ?_ ?_ ?_ ?_
 rotate_left 1
 · rfl
 · (intro w' hS; obtain ⟨hcc, hff⟩ := bcell hS; go_simp; first | with_reducible rfl | skip)
 · (simp only [Act.put, List.setIfInBounds_toArray, List.set_cons_zero, List.set_cons_succ]; with_reducible rfl)
 refine' inKrip_val rfl (fun _ _ => trivial) ?_ ?_ ?_ ?_
 rotate_left 1
 · rfl
 · (intro w' hS; obtain ⟨hcc, hff⟩ := bcell hS; go_simp; first | with_reducible rfl | skip)
 · (simp only [Act.put, List.setIfInBounds_toArray, List.set_cons_zero, List.set_cons_succ]; with_reducible rfl)
 refine inKrip_make rfl ⟨_, ⟨0, rfl⟩⟩ rfl (fun w' hS hF => ?_) ?_
 · refine ⟨.slice (some ⟨w'.heap.size, 0, none⟩) t.da.length t.da.length, w'.alloc (.cells (madeCells #[.int .i64 0] t.da.length) 3), ?_, ⟨_, rfl⟩, ?_, bl_a (Below.refl _ _) _, bl_then hS (bl_a (Below.refl _ _) _)⟩
   · have := HMK.out w'
     go_simp
   · have := World.ownsRow_lit (base := w.heap.size + 2) (e := 3) (size := 1) w' (madeCells #[.int .i64 0] t.da.length) t.da.length (Nat.le_trans hz02 hS.size) (by unfold maxLen; omega) (by simp [size_madeCells])
     rw [made_zero] at this
     exact this
 rintro u7 ⟨g7, rfl⟩
 simp only [Act.put, List.setIfInBounds_toArray, List.set_cons_zero, List.set_cons_succ]
 refine' inKrip_val rfl (fun _ _ => trivial) ?_ ?_ ?_ ?_
 rotate_left 1
 · rfl
 · (intro w' hS; obtain ⟨hcc, hff⟩ := bcell hS; go_simp; first | with_reducible rfl | skip)
 · (simp only [Act.put, List.setIfInBounds_toArray, List.set_cons_zero, List.set_cons_succ]; with_reducible rfl)
 refine' inKrip_val rfl (fun _ _ => trivial) ?_ ?_ ?_ ?_
 rotate_left 1
 · rfl
 · (intro w' hS; obtain ⟨hcc, hff⟩ := bcell hS; go_simp; first | with_reducible rfl | skip)
 · (simp only [Act.put, List.setIfInBounds_toArray, List.set_cons_zero, List.set_cons_succ]; with_reducible rfl)
 refine inKrip_any (f := 95) (args := #[.int .i64 t.re]) rfl ⟨_, ⟨0, rfl⟩⟩ ?_ ?_ ?_ ?_
 · rfl
 · intro w' hS; go_simp
 · intro w' hS hF
   refine (HSE.out t.re w').mono (fun e w'' h => ?_)
   obtain ⟨z, rfl, rfl⟩ := h
   exact ⟨_, rfl, ⟨z, rfl⟩, trivial, Below.refl _ _, hS⟩
 rintro u10 ⟨z, rfl⟩
 simp only [Act.put, List.setIfInBounds_toArray, List.set_cons_zero, List.set_cons_succ]
 refine inKrip_make rfl ⟨_, ⟨none, 0, 0, 0, rfl⟩⟩ rfl (fun w' hS hF => ?_) ?_
 · have h3 := hF ⟨3, .data⟩ (by simp) rfl
   have h7 := hF ⟨7, .data⟩ (by simp) rfl
   refine ⟨.agg #[.slice ga t.gl.length gc, .slice none 0 0, .slice none 0 0, .slice none 0 0, .slice none 0 0, .slice none 0 0, .slice (some ⟨g7, 0, none⟩) t.da.length t.da.length, .int .u64 z, .int .i64 0, .int .i64 0, .int .i64 0, .int .i64 0, .int .i64 0], w', ?_, ⟨_, _, _, _, rfl⟩, ?_, Below.refl _ _, hS⟩
   · go_simp
   · rintro a c g z' e
     simp only [Value.agg.injEq, Array.mk.injEq, List.cons.injEq, Value.slice.injEq, and_true, true_and, Option.some.injEq, Addr.mk.injEq, Value.int.injEq] at e
     obtain ⟨⟨rfl, rfl⟩, rfl, rfl⟩ := e
     exact ⟨h3, h7⟩
 rintro u11 ⟨ga', gc', g7', z', rfl⟩
 simp only [Act.put, List.setIfInBounds_toArray, List.set_cons_zero, List.set_cons_succ]
 refine inKrip_make rfl ⟨_, ⟨0, rfl⟩⟩ rfl (fun w' hS hF => ?_) ?_
 · refine ⟨.pointer (some ⟨w'.heap.size, 0, none⟩), w'.alloc (.cells zeroW.toArray 31), ?_, ⟨_, rfl⟩, ?_, bl_a (Below.refl _ _) _, bl_then hS (bl_a (Below.refl _ _) _)⟩
   · unfold zeroW; go_simp
   · rintro B e
     simp only [Value.pointer.injEq, Option.some.injEq, Addr.mk.injEq, and_true] at e
     subst e
     exact ⟨BK.new _ _ _, Nat.le_trans hz02 hS.size⟩
 rintro u12 ⟨B, rfl⟩
 simp only [Act.put, List.setIfInBounds_toArray, List.set_cons_zero, List.set_cons_succ]
 refine inKrip_nil (hKK.out _ _ (fun w1 hS hF => ?_))
 simp only [List.drop]
 have h11 : newGG w.heap.size x t 11 (.agg #[.slice ga' t.gl.length gc', .slice none 0 0, .slice none 0 0, .slice none 0 0, .slice none 0 0, .slice none 0 0, .slice (some ⟨g7', 0, none⟩) t.da.length t.da.length, .int .u64 z', .int .i64 0, .int .i64 0, .int .i64 0, .int .i64 0, .int .i64 0]) w1 := hF 11 (by decide)
 have h12 : newGG w.heap.size x t 12 (.pointer (some ⟨B, 0, none⟩)) w1 := hF 12 (by decide)
 clear hF hKK
 obtain ⟨hoa, ho7⟩ := h11 _ _ _ _ rfl
 obtain ⟨hBK, hBs⟩ := h12 _ rfl
 have HOA := Lib.hid hoa
 have HO7 := Lib.hid ho7
 have HBK := Lib.hid hBK
 have HS1 := Lib.hid hS
 have hzB : B < w1.heap.size := hBK.lt
 have e0 := hBK.cell 0
 have e1 := hBK.cell 1
 have e2 := hBK.cell 2
 have e3 := hBK.cell 3
 have e4 := hBK.cell 4
 have e5 := hBK.cell 5
 have e6 := hBK.cell 6
 have e7 := hBK.cell 7
 have e8 := hBK.cell 8
 have e9 := hBK.cell 9
 have e10 := hBK.cell 10
 have e11 := hBK.cell 11
 have e12 := hBK.cell 12
 have f0 := hBK.fr 0
 have f1 := hBK.fr 1
 have f2 := hBK.fr 2
 have f3 := hBK.fr 3
 have f4 := hBK.fr 4
 have f5 := hBK.fr 5
 have f6 := hBK.fr 6
 have f7 := hBK.fr 7
 have f8 := hBK.fr 8
 have f9 := hBK.fr 9
 have f10 := hBK.fr 10
 have f11 := hBK.fr 11
 have f12 := hBK.fr 12
 simp only [zeroW, List.getElem?_cons_zero, List.getElem?_cons_succ] at e0 e1 e2 e3 e4 e5 e6 e7 e8 e9 e10 e11 e12
 clear h11 h12 hoa ho7 hBK hS
 clear kt0 kt1 kt2 kt3 kt4 kt5 kt6 kt7 kt8 kt9 kt10 kt11 kt12 kt13 kt14
 go_upto_region 2 with (fail)
 generalize hW2 : World.setCell _ ⟨B, 12, none⟩ _ = W2
 have HGR : Hid (w1.grownBy W2 (some B)) := Lib.hid (by
  rw [← hW2]
  exact (gr_trans (gr_trans (gr_trans (gr_trans (gr_trans (gr_trans (gr_trans (gr_trans (gr_trans (gr_trans (gr_trans (gr_trans (gr_set w1 B 0 _) (gr_set _ B 1 _)) (gr_set _ B 2 _)) (gr_set _ B 3 _)) (gr_set _ B 4 _)) (gr_set _ B 5 _)) (gr_set _ B 6 _)) (gr_set _ B 7 _)) (gr_set _ B 8 _)) (gr_set _ B 9 _)) (gr_set _ B 10 _)) (gr_set _ B 11 _)) (gr_set _ B 12 _)))
 have HBW : Hid (BK W2 B (worldC ⟨ga', none, none, none, none, none, some ⟨g7', 0, none⟩, t.gl.length, 0, 0, 0, 0, 0, t.da.length, gc', 0, 0, 0, 0, 0, t.da.length, z', 0, 0, 0, 0, 0⟩) 31) := Lib.hid (by
  rw [← hW2]
  have hBK := HBK.out
  have := (((((((((((((hBK.set 0 (.slice ga' t.gl.length gc')).set 1 (.slice none 0 0)).set 2 (.slice none 0 0)).set 3 (.slice none 0 0)).set 4 (.slice none 0 0)).set 5 (.slice none 0 0)).set 6 (.slice (some ⟨g7', 0, none⟩) t.da.length t.da.length)).set 7 (.int .u64 z')).set 8 (.int .i64 0)).set 9 (.int .i64 0)).set 10 (.int .i64 0)).set 11 (.int .i64 0)).set 12 (.int .i64 0))
  simp only [zeroW, List.set_cons_zero, List.set_cons_succ] at this
  exact this)
 clear hW2 e0 e1 e2 e3 e4 e5 e6 e7 e8 e9 e10 e11 e12 f0 f1 f2 f3 f4 f5 f6 f7 f8 f9 f10 f11 f12
 have HST : Hid (NSt x t w W2 B W2 ⟨ga', none, none, none, none, none, some ⟨g7', 0, none⟩, t.gl.length, 0, 0, 0, 0, 0, t.da.length, gc', 0, 0, 0, 0, 0, t.da.length, z', 0, 0, 0, 0, 0⟩ (dAt t 0)) := Lib.hid (by
  have hsz := HGR.out.size
  have hs1 := HS1.out.size
  have n1 := own_far HOA.out HBK.out
  have n2 := own_far HO7.out HBK.out
  have k1 : W2.ownsRow (w.heap.size + 2) 3 1 (.slice ga' t.gl.length gc') t.gl.length (t.gl.map (.int .i64)) := HOA.out.kept HGR.out (.inr (fun e => n1 e))
  have k2 : W2.ownsRow (w.heap.size + 2) 3 1 (.slice (some ⟨g7', 0, none⟩) t.da.length t.da.length) t.da.length ((List.replicate t.da.length (0 : Int)).map (.int .i64)) := HO7.out.kept HGR.out (.inr (fun e => n2 e))
  refine ⟨(HBT.out.below HS1.out).kept HGR.out (fun j hj => by have := Option.some.inj hj; omega), (HBR.out.below HS1.out).kept HGR.out (fun j hj => by have := Option.some.inj hj; omega), HBW.out, hBs, by omega, Nat.le_refl _, fun k hk => ?_, fun j k hj hk hjk b hb => ?_, bl_g (bl_then HB0.out HS1.out) HGR.out (fun k hk => by have := Option.some.inj hk; omega), But.refl _ _ _, ⟨rfl, ?_, fun b o e h0 => ?_⟩, ⟨by simp [dAt], ?_, fun b o e h0 => ?_⟩⟩
  · match k, hk with
    | 0, _ | 1, _ | 2, _ | 3, _ | 4, _ => exact World.ownsRow_nil _ _ _ _
  · match j, hj with
    | 0, _ | 1, _ | 2, _ | 3, _ | 4, _ => cases hb
  · exact reads_own (L := t.gl) k1 HGW.out (by unfold reachBytes; omega) (by unfold maxLen; omega)
  · exact ⟨fun h => by subst h; exact n1 (by dsimp only at e; rw [e]; rfl), by dsimp only at e; exact ow_ge k1 b o e⟩
  · have := reads_own (L := List.replicate t.da.length (0 : Int)) (by rw [List.length_replicate]; exact k2) (fun x hx => by rw [List.eq_of_mem_replicate hx]; rfl) (by rw [List.length_replicate]; unfold reachBytes; omega) (by rw [List.length_replicate]; unfold maxLen; omega)
    exact this
  · exact ⟨fun h => by subst h; exact n2 (by dsimp only at e; rw [e]; rfl), by dsimp only at e; exact ow_ge k2 b o e⟩)
 clear HOA HO7 HBK HGR HBW HBT HBR
 unfold tabV tabC at HAF
 go_wp2_with fail
 go_loopw [4] (fun iv wr => ∃ (i l5 : Nat) (a1 a2 a3 a4 a5 : Option Addr) (c1 c2 c3 c4 c5 : Nat), iv = .int .i64 i ∧ i ≤ t.th.length ∧ l5 ≤ 16 * i ∧ Hid (NSt x t w W2 B wr ⟨ga', a1, a2, a3, a4, a5, some ⟨g7', 0, none⟩, t.gl.length, i, i, i, i, l5, t.da.length, gc', c1, c2, c3, c4, c5, t.da.length, z', 0, 0, 0, 0, 0⟩ (dAt t i))) (fun iv _ => t.th.length - (intOf iv).toNat)
 case atStart => exact ⟨0, 0, none, none, none, none, none, 0, 0, 0, 0, 0, rfl, Nat.zero_le _, Nat.zero_le _, HST⟩
 case round =>
  obtain ⟨i, l5, a1, a2, a3, a4, a5, c1, c2, c3, c4, c5, rfl, hil, hl5, HN⟩ := hrel
  clear HST
  by_cases hlt : i < t.th.length
  · obtain ⟨b, off, ra, rc, hx8, hbl, hcells⟩ := HTH.out i hlt
    have HPy := Lib.hid (HPW.out t.th[i] (List.getElem_mem hlt))
    have HDA : Hid (dAt t (i + 1) = putL (putL (putL (putL (putL (dAt t i) 0 ((dAt t i).pa ++ [(t.th[i]).pa])) 1 ((dAt t i).ch ++ [chAt (psT t) i])) 2 ((dAt t i).nx ++ [nxAt (psT t) i])) 3 ((dAt t i).fl ++ [(t.th[i]).fl])) 4 ((dAt t i).pr ++ (t.th[i]).pr)) := Lib.hid (dAt_succ hlt)
    have HCH : Hid (chAt (psT t) i = if i = 0 then 0 else afterI (t.th.map (·.pa)) i (t.th.length - 1) 1) := Lib.hid (by unfold chAt psT; rw [List.length_map])
    have HNX : Hid (nxAt (psT t) i = if (t.th[i]).pa = 0 then 0 else afterI (t.th.map (·.pa)) (t.th[i]).pa (t.th.length - (i + 1)) (i + 1)) := Lib.hid (by
     unfold nxAt
     have : (psT t).getD i 0 = (t.th[i]).pa := by unfold psT; rw [List.getD_eq_getElem?_getD, List.getElem?_map, List.getElem?_eq_getElem hlt]; rfl
     rw [this]; unfold psT; rw [List.length_map])
    have HCE := Lib.hid hcells
    generalize chAt (psT t) i = chv at *
    generalize nxAt (psT t) i = nxv at *
    generalize t.th[i] = y at *
    obtain ⟨z2, z3, z5, hzi⟩ := hcells wr HN.out.bl
    have HA1 := Lib.hid (fun w' (hb : Below w.heap.size w w') => HAF.out 1 i w' hb (by omega))
    have HA2 := Lib.hid (fun w' (hb : Below w.heap.size w w') => HAF.out (i + 1) y.pa w' hb (by omega))
    rw [show (((i + 1 : Nat)) : Int) = (i : Int) + 1 from by omega] at HA2
    have HWR := Lib.hid (And.intro (show IntKind.i64.wrap ((i : Int) + 1) = (i : Int) + 1 from IntWalk.i64_in _ (by omega)) (show wrap64 ((i : Int) + 1) = (i : Int) + 1 from IntWalk.wrap64_in _ (by omega)))
    have HTT := Lib.hid HN.out.bt
    have kt8 := HTT.out.cell 8
    simp only [tabC, List.getElem?_cons_zero, List.getElem?_cons_succ] at kt8
    rw [hx8] at kt8
    have hzs : w.heap.size < wr.heap.size := HTT.out.lt
    clear hcells hzi kt8
    simp only [hx8] at HA1 HA2
    obtain ⟨kt0, kt1, kt2, kt3, kt4, kt5, kt6, kt7, kt8, kt9, kt10, kt11, kt12, kt13, kt14⟩ := tab15 (HTT.out)
    rw [hx8] at kt8
    have HX8 := Lib.hid hx8
    clear hx8
    by_cases hi0 : i = 0
    · have hgt : ¬ ((0 : Int) < (i : Int)) := by omega
      have hchv : chv = 0 := by rw [HCH.out, if_pos hi0]
      subst hchv
      clear hi0
      by_cases hp0 : y.pa = 0
      · have hnv : nxv = 0 := by rw [HNX.out, if_pos hp0]
        have e1 : (y.pa != 0) = false := by simp [hp0]
        have e2 : (y.pa == 0) = true := by simp [hp0]
        subst hnv
        clear hp0
        go_upto_region 11 with (fail)
        clear kt0 kt1 kt2 kt3 kt4 kt5 kt6 kt7 kt8 kt9 kt10 kt11 kt12 kt13 kt14 HTT HWR hgt e1 e2
        as_aux_lemma =>
         -- wr: the world; 0: the row; a1, c1: where it lies; y.pa: the number; (dAt t i).pa: the list so far; 12: the next region; w7: the world behind
         have pB := HN.out.bw.cell (0 + 1)
         simp only [worldC, putR, List.getElem?_cons_zero, List.getElem?_cons_succ] at pB
         have HOW : Hid ((wr).ownsRow W2.heap.size 3 1 (.slice a1 i c1) i (((dAt t i).pa).map (.int .i64))) := Lib.hid (HN.out.own 0 (by decide))
         have HWN := Lib.hid (HOW.out.alloc (.cells #[.int .i64 y.pa] 3))
         have HNa := Lib.hid (HN.out.below (bl_a (Below.refl _ _) (.cells #[.int .i64 y.pa] 3)))
         have hzw : W2.heap.size ≤ (wr).heap.size := HN.out.hW
         have hzb : B < (wr).heap.size := HN.out.bw.lt
         go_wp2_with (at_builtin; refine wpList_append_lies _ rfl _ _ 23 rfl W2.heap.size 3 i0 (.int .i64 0) 1 8 Tryz.underlying23 hi hi1 hi2 hi3 rfl (by decide) _ i (((dAt t i).pa).map (.int .i64)) rfl HWN.out ⟨(wr).heap.size, 0, none⟩ 1 1 [.int .i64 y.pa] rfl rfl (int_newS _ _ _) (ow_one rfl) (by decide) (by unfold maxLen; omega) (by omega) (by simp; omega) _ rfl ?_; intro g1 k1 w3 hown3 hgrow3 hat3 hlt3; refine Hid.out ?_)
         refine Lib.hid ?_
         have HM3 := Lib.hid (HNa.out.mid (k := 0) (by decide) hgrow3)
         have HPUT := Lib.hid (HNa.out.put (k := 0) (by decide) hgrow3 (L := (dAt t i).pa ++ [y.pa]) (by rw [List.map_append]; exact hown3) (app_lie hat3))
         clear pB hown3 hgrow3 hat3 hzb HOW HWN HNa HN
         have q0 := HM3.out.2.2.cell (0 + 1)
         have q1 := HM3.out.2.2.fr (0 + 1)
         simp only [worldC, putR, List.getElem?_cons_zero, List.getElem?_cons_succ] at q0
         have hzb3 : B < w3.heap.size := HM3.out.2.2.lt
         go_upto_region 12 with (fail)
         generalize hWn : World.setCell w3 _ _ = w7
         have HN : Hid (NSt x t w W2 B w7 _ _) := Lib.hid (by rw [← hWn]; exact HPUT.out)
         clear hWn HPUT HM3 q0 q1 hzb3 hlt3 hzw
         -- w7: the world; 1: the row; a2, c2: where it lies; 0: the number; (dAt t i).ch: the list so far; 13: the next region; w8: the world behind
         have pB := HN.out.bw.cell (1 + 1)
         simp only [worldC, putR, List.getElem?_cons_zero, List.getElem?_cons_succ] at pB
         have HOW : Hid ((w7).ownsRow W2.heap.size 3 1 (.slice a2 i c2) i (((dAt t i).ch).map (.int .i64))) := Lib.hid (HN.out.own 1 (by decide))
         have HWN := Lib.hid (HOW.out.alloc (.cells #[.int .i64 0] 3))
         have HNa := Lib.hid (HN.out.below (bl_a (Below.refl _ _) (.cells #[.int .i64 0] 3)))
         have hzw : W2.heap.size ≤ (w7).heap.size := HN.out.hW
         have hzb : B < (w7).heap.size := HN.out.bw.lt
         go_wp2_with (at_builtin; refine wpList_append_lies _ rfl _ _ 23 rfl W2.heap.size 3 i0 (.int .i64 0) 1 8 Tryz.underlying23 hi hi1 hi2 hi3 rfl (by decide) _ i (((dAt t i).ch).map (.int .i64)) rfl HWN.out ⟨(w7).heap.size, 0, none⟩ 1 1 [.int .i64 0] rfl rfl (int_newS _ _ _) (ow_one rfl) (by decide) (by unfold maxLen; omega) (by omega) (by simp; omega) _ rfl ?_; intro g2 k2 w3 hown3 hgrow3 hat3 hlt3; refine Hid.out ?_)
         refine Lib.hid ?_
         have HM3 := Lib.hid (HNa.out.mid (k := 1) (by decide) hgrow3)
         have HPUT := Lib.hid (HNa.out.put (k := 1) (by decide) hgrow3 (L := (dAt t i).ch ++ [0]) (by rw [List.map_append]; exact hown3) (app_lie hat3))
         clear pB hown3 hgrow3 hat3 hzb HOW HWN HNa HN
         have q0 := HM3.out.2.2.cell (1 + 1)
         have q1 := HM3.out.2.2.fr (1 + 1)
         simp only [worldC, putR, List.getElem?_cons_zero, List.getElem?_cons_succ] at q0
         have hzb3 : B < w3.heap.size := HM3.out.2.2.lt
         go_upto_region 13 with (fail)
         generalize hWn : World.setCell w3 _ _ = w8
         have HN : Hid (NSt x t w W2 B w8 _ _) := Lib.hid (by rw [← hWn]; exact HPUT.out)
         clear hWn HPUT HM3 q0 q1 hzb3 hlt3 hzw
         -- w8: the world; 2: the row; a3, c3: where it lies; 0: the number; (dAt t i).nx: the list so far; 14: the next region; w9: the world behind
         have pB := HN.out.bw.cell (2 + 1)
         simp only [worldC, putR, List.getElem?_cons_zero, List.getElem?_cons_succ] at pB
         have HOW : Hid ((w8).ownsRow W2.heap.size 3 1 (.slice a3 i c3) i (((dAt t i).nx).map (.int .i64))) := Lib.hid (HN.out.own 2 (by decide))
         have HWN := Lib.hid (HOW.out.alloc (.cells #[.int .i64 0] 3))
         have HNa := Lib.hid (HN.out.below (bl_a (Below.refl _ _) (.cells #[.int .i64 0] 3)))
         have hzw : W2.heap.size ≤ (w8).heap.size := HN.out.hW
         have hzb : B < (w8).heap.size := HN.out.bw.lt
         go_wp2_with (at_builtin; refine wpList_append_lies _ rfl _ _ 23 rfl W2.heap.size 3 i0 (.int .i64 0) 1 8 Tryz.underlying23 hi hi1 hi2 hi3 rfl (by decide) _ i (((dAt t i).nx).map (.int .i64)) rfl HWN.out ⟨(w8).heap.size, 0, none⟩ 1 1 [.int .i64 0] rfl rfl (int_newS _ _ _) (ow_one rfl) (by decide) (by unfold maxLen; omega) (by omega) (by simp; omega) _ rfl ?_; intro g3 k3 w3 hown3 hgrow3 hat3 hlt3; refine Hid.out ?_)
         refine Lib.hid ?_
         have HM3 := Lib.hid (HNa.out.mid (k := 2) (by decide) hgrow3)
         have HPUT := Lib.hid (HNa.out.put (k := 2) (by decide) hgrow3 (L := (dAt t i).nx ++ [0]) (by rw [List.map_append]; exact hown3) (app_lie hat3))
         clear pB hown3 hgrow3 hat3 hzb HOW HWN HNa HN
         have q0 := HM3.out.2.2.cell (2 + 1)
         have q1 := HM3.out.2.2.fr (2 + 1)
         simp only [worldC, putR, List.getElem?_cons_zero, List.getElem?_cons_succ] at q0
         have hzb3 : B < w3.heap.size := HM3.out.2.2.lt
         go_upto_region 14 with (fail)
         generalize hWn : World.setCell w3 _ _ = w9
         have HN : Hid (NSt x t w W2 B w9 _ _) := Lib.hid (by rw [← hWn]; exact HPUT.out)
         clear hWn HPUT HM3 q0 q1 hzb3 hlt3 hzw
         as_aux_lemma =>
          have HOW : Hid (w9.ownsRow W2.heap.size 3 1 (.slice a4 i c4) i ((dAt t i).fl.map (.int .i64))) := Lib.hid (HN.out.own 3 (by decide))
          have hzw : W2.heap.size ≤ w9.heap.size := HN.out.hW
          have HRD : Hid (∀ w' : World, (w9.heap.size ≤ w'.heap.size ∧ ∀ z, z < w9.heap.size → (Value.slice a4 i c4).ownBlock ≠ some z → w'.heap[z]? = w9.heap[z]?) →
              w'.cell? ⟨B, 4, none⟩ = some (.slice a4 i c4) ∧ w'.cell? ⟨w.heap.size, 8, none⟩ = some (.slice (some ⟨b, off, none⟩) t.th.length x.c8) ∧ w'.cell? ⟨b, off + i * 9 + 3, none⟩ = some (.int .i64 y.fl) ∧ b < w'.heap.size ∧ B < w'.heap.size) := Lib.hid (fun w' hS => by
           have hlo : ∀ z, z < W2.heap.size → (Value.slice a4 i c4).ownBlock ≠ some z := fun z hz e => by have := ow_lo HOW.out z e; omega
           have h1 := HN.out.hBF
           have h2 := HN.out.hB
           have h3 := HN.out.hW
           refine ⟨?_, ?_, ?_, by omega, by omega⟩
           · rw [World.cell?_of_block (a := ⟨B, 4, none⟩) (hS.2 B (by omega) (hlo B (by omega)))]; exact HN.out.bw.cell 4
           · rw [World.cell?_of_block (a := ⟨w.heap.size, 8, none⟩) (hS.2 w.heap.size (by omega) (hlo _ (by omega))), ← HX8.out]; exact HN.out.bt.cell 8
           · rw [World.cell?_of_block (a := ⟨b, off + i * 9 + 3, none⟩) (hS.2 b (by omega) (hlo b (by omega)))]; exact (HCE.out w9 HN.out.bl).2.1)
          have hiz : (0 : Int) ≤ (i : Int) := by omega
          have hit : (i : Int) < (t.th.length : Int) := by omega
          refine region_last (.rd 0 (.rd 1 (.rd 2 (.rd 3 (.rd 4 (.rd 5 (.rd 6 (.rd 7 (.one 8 (.one 9 (.one 10 .done))))))))))) (fun w' : World => w9.heap.size ≤ w'.heap.size ∧ ∀ z, z < w9.heap.size → (Value.slice a4 i c4).ownBlock ≠ some z → w'.heap[z]? = w9.heap[z]?) (by kernel_rfl) (by kernel_rfl) ⟨Nat.le_refl _, fun _ _ _ => rfl⟩ (fun KK hKK => ?_)
          intro OPS
          simp only [Ways.see, List.getElem?_cons_zero, List.getElem?_cons_succ]
          iterate 8
           (refine' inWays_read ?_ ?_ ?_ ?_
            rotate_left 2
            · rfl
            · (intro w' hS; obtain ⟨r0, r1, r2, r3, r4⟩ := HRD.out w' hS; go_simp; first | with_reducible rfl | skip)
            · (simp only [Act.put, List.setIfInBounds_toArray, List.set_cons_zero, List.set_cons_succ]; with_reducible rfl))
          refine' inWays_val ?_ ?_ ?_ ?_ ?_
          rotate_left 3
          · rfl
          · (go_simp; first | exact ⟨rfl, rfl⟩ | with_reducible rfl)
          · exact sk_alloc _
          · (simp only [Act.put, List.setIfInBounds_toArray, List.set_cons_zero, List.set_cons_succ]; with_reducible rfl)
          generalize hWa : World.drew (World.alloc w9 _) = Wa
          have HWN : Hid (Wa.ownsRow W2.heap.size 3 1 (.slice a4 i c4) i ((dAt t i).fl.map (.int .i64))) := Lib.hid (by rw [← hWa]; exact HOW.out.alloc _)
          have HNE : Hid (∀ j v, ([Value.int .i64 y.fl] : List Value)[j]? = some v → Wa.cell? ((⟨w9.heap.size, 0, none⟩ : Addr).add j) = some v) := Lib.hid (by rw [← hWa]; exact int_newS w9 y.fl 3)
          have HNa : Hid (NSt x t w W2 B Wa _ _) := Lib.hid (HN.out.below (w' := Wa) (by rw [← hWa]; exact (bl_a (Below.refl _ _) _).drew))
          have HSA : Hid (w9.heap.size ≤ Wa.heap.size ∧ ∀ z, z < w9.heap.size → (Value.slice a4 i c4).ownBlock ≠ some z → Wa.heap[z]? = w9.heap[z]?) := Lib.hid (by rw [← hWa]; exact sk_alloc _)
          clear hWa
          refine inWays_append rfl _ _ 23 rfl W2.heap.size 3 i0 (.int .i64 0) 1 8 Tryz.underlying23 hi hi1 hi2 hi3 rfl (by decide) _ i ((dAt t i).fl.map (.int .i64)) rfl HWN.out ⟨w9.heap.size, 0, none⟩ 1 1 [.int .i64 y.fl] rfl rfl HNE.out (ow_one rfl) (by decide) (by unfold maxLen; omega) (by omega) (Nat.le_trans hzw HSA.out.1) (fun g4 k4 w3 hown3 hgrow3 hat3 hlt3 => ⟨sk_then HSA.out hgrow3, ?_⟩)
          simp only [Act.put, List.setIfInBounds_toArray, List.set_cons_zero, List.set_cons_succ]
          refine' inWays_val ?_ ?_ ?_ ?_ ?_
          rotate_left 3
          · rfl
          · (go_simp; first | exact ⟨rfl, rfl⟩ | with_reducible rfl)
          · exact sk_then HSA.out hgrow3
          · (simp only [Act.put, List.setIfInBounds_toArray, List.set_cons_zero, List.set_cons_succ]; with_reducible rfl)
          refine inWays_nil (hKK.out _ _ ?_)
          have HM3 := Lib.hid (HNa.out.mid (k := 3) (by decide) hgrow3)
          have HPUT := Lib.hid (HNa.out.put (k := 3) (by decide) hgrow3 (L := (dAt t i).fl ++ [y.fl]) (by rw [List.map_append]; exact hown3) (app_lie hat3))
          clear hown3 hgrow3 hat3 HOW HWN HNE HNa HSA HRD HN hKK
          have q0 := HM3.out.2.2.cell 4
          have q1 := HM3.out.2.2.fr 4
          simp only [worldC, putR, List.getElem?_cons_zero, List.getElem?_cons_succ] at q0
          have hzb3 : B < w3.heap.size := HM3.out.2.2.lt
          simp only [List.length_cons, List.length_nil, Nat.zero_add, Nat.reduceAdd, Nat.reduceSub, List.drop_succ_cons, List.drop_zero]
          go_upto_region 15 with (fail)
          generalize hWn : World.setCell w3 _ _ = w10
          have HN : Hid (NSt x t w W2 B w10 _ _) := Lib.hid (by rw [← hWn]; exact HPUT.out)
          clear hWn HPUT HM3 q0 q1 hzb3 hlt3 hzw
          as_aux_lemma =>
           have HOW : Hid (w10.drew.ownsRow W2.heap.size 3 1 (.slice a5 l5 c5) l5 ((dAt t i).pr.map (.int .i64))) := Lib.hid (HN.out.own 4 (by decide))
           have hzw : W2.heap.size ≤ w10.heap.size := HN.out.hW
           obtain ⟨_, _, hzp, hzi⟩ := HCE.out w10 HN.out.bl
           have HRD : Hid (∀ w' : World, (w10.heap.size ≤ w'.heap.size ∧ ∀ z, z < w10.heap.size → (Value.slice a5 l5 c5).ownBlock ≠ some z → w'.heap[z]? = w10.heap[z]?) →
               w'.cell? ⟨B, 5, none⟩ = some (.slice a5 l5 c5) ∧ w'.cell? ⟨w.heap.size, 8, none⟩ = some (.slice (some ⟨b, off, none⟩) t.th.length x.c8) ∧ w'.cell? ⟨b, off + i * 9 + 5, none⟩ = some (.slice ra y.pr.length rc) ∧ b < w'.heap.size ∧ B < w'.heap.size) := Lib.hid (fun w' hS => by
            have hlo : ∀ z, z < W2.heap.size → (Value.slice a5 l5 c5).ownBlock ≠ some z := fun z hz e => by have := ow_lo HOW.out z e; omega
            have h1 := HN.out.hBF
            have h2 := HN.out.hB
            have h3 := HN.out.hW
            refine ⟨?_, ?_, ?_, by omega, by omega⟩
            · rw [World.cell?_of_block (a := ⟨B, 5, none⟩) (hS.2 B (by omega) (hlo B (by omega)))]; exact HN.out.bw.cell 5
            · rw [World.cell?_of_block (a := ⟨w.heap.size, 8, none⟩) (hS.2 w.heap.size (by omega) (hlo _ (by omega))), ← HX8.out]; exact HN.out.bt.cell 8
            · rw [World.cell?_of_block (a := ⟨b, off + i * 9 + 5, none⟩) (hS.2 b (by omega) (hlo b (by omega)))]; exact hzp)
           obtain ⟨v5, w3, hr5, hown3, hgrow3, hlie3⟩ := app_ints w10.drew W2.heap.size _ l5 _ HOW.out ra rc y.pr hzi (by have := HPy.out.2.2.2; omega) hzw 23
           have hlie4 : v5.ownBlock = (Value.slice a5 l5 c5).ownBlock ∨ ∀ b, v5.ownBlock = some b → w10.drew.heap.size ≤ b := by
            rcases hlie3 with h | h
            · exact .inl h
            · exact .inr (fun b hb => by rw [h] at hb; exact Nat.le_of_eq (Option.some.inj hb))
           obtain ⟨a6, c6, rfl⟩ := ow_shape hown3
           have HNd : Hid (NSt x t w W2 B w10.drew _ _) := Lib.hid (HN.out.below ((Below.refl _ _).drew))
           have HSK : Hid (w10.heap.size ≤ w3.heap.size ∧ ∀ z, z < w10.heap.size → (Value.slice a5 l5 c5).ownBlock ≠ some z → w3.heap[z]? = w10.heap[z]?) := Lib.hid ⟨hgrow3.size, fun z hz hr => hgrow3.block z hz (fun e => hr e.symm)⟩
           have HM3 := Lib.hid (HNd.out.mid (k := 4) (by decide) hgrow3)
           have HPUT := Lib.hid (HNd.out.put (k := 4) (by decide) hgrow3 (L := (dAt t i).pr ++ y.pr) (by rw [List.map_append]; exact hown3) hlie4)
           have HRUN := Lib.hid hr5
           clear hown3 hgrow3 hlie3 hlie4 hr5 HOW HNd HN hzi hzp
           have hiz : (0 : Int) ≤ (i : Int) := by omega
           have hit : (i : Int) < (t.th.length : Int) := by omega
           refine region_last (.rd 0 (.rd 1 (.rd 2 (.rd 3 (.rd 4 (.rd 5 (.rd 6 (.rd 7 (.one 8 (.one 9 .done)))))))))) (fun w' : World => w10.heap.size ≤ w'.heap.size ∧ ∀ z, z < w10.heap.size → (Value.slice a5 l5 c5).ownBlock ≠ some z → w'.heap[z]? = w10.heap[z]?) (by kernel_rfl) (by kernel_rfl) ⟨Nat.le_refl _, fun _ _ _ => rfl⟩ (fun KK hKK => ?_)
           intro OPS
           simp only [Ways.see, List.getElem?_cons_zero, List.getElem?_cons_succ]
           iterate 8
            (refine' inWays_read ?_ ?_ ?_ ?_
             rotate_left 2
             · rfl
             · (intro w' hS; obtain ⟨r0, r1, r2, r3, r4⟩ := HRD.out w' hS; go_simp; first | with_reducible rfl | skip)
             · (simp only [Act.put, List.setIfInBounds_toArray, List.set_cons_zero, List.set_cons_succ]; with_reducible rfl))
           refine inWays_val rfl (run_app (.tmp 75) (.tmp 81) 23 rfl rfl rfl HRUN.out) HSK.out rfl ?_
           simp only [Act.put, List.setIfInBounds_toArray, List.set_cons_zero, List.set_cons_succ]
           refine' inWays_val ?_ ?_ ?_ ?_ ?_
           rotate_left 3
           · rfl
           · (go_simp; first | exact ⟨rfl, rfl⟩ | with_reducible rfl)
           · exact HSK.out
           · (simp only [Act.put, List.setIfInBounds_toArray, List.set_cons_zero, List.set_cons_succ]; with_reducible rfl)
           refine inWays_nil (hKK.out _ _ ?_)
           clear hKK HRD HRUN HSK
           have q0 := HM3.out.2.2.cell 5
           have q1 := HM3.out.2.2.fr 5
           simp only [worldC, putR, List.getElem?_cons_zero, List.getElem?_cons_succ] at q0
           have hzb3 : B < w3.heap.size := HM3.out.2.2.lt
           have hpl := HPy.out.2.2.2
           have HFIN : Hid (NSt x t w W2 B (w3.setCell ⟨B, 5, none⟩ (.slice a6 (l5 + y.pr.length) c6)) _ (dAt t (i + 1))) := Lib.hid (by rw [HDA.out]; exact HPUT.out)
           clear HPUT HM3
           simp only [List.length_cons, List.length_nil, Nat.zero_add, Nat.reduceAdd, Nat.reduceSub, List.drop_succ_cons, List.drop_zero]
           go_wp2_with fail
           go_roundw
           case rel => exact ⟨i + 1, l5 + y.pr.length, _, _, _, _, _, _, _, _, _, _, by go_num, by omega, by omega, HFIN⟩
           case measure => simp [intOf]; omega
      · have e1 : (y.pa != 0) = true := by simp [hp0]
        have e2 : (y.pa == 0) = false := by simp [hp0]
        have hcn : afterI (t.th.map (·.pa)) y.pa (t.th.length - (i + 1)) (i + 1) = nxv := by
         have := HNX.out
         rw [if_neg hp0] at this
         exact this.symm
        rw [hcn] at HA2
        clear hcn hp0
        have hwr := HWR.out.1
        have hwr2 := HWR.out.2
        go_wp2_with fail
        refine (HA2.out _ HN.out.bl).mono ?_
        rintro e w6 ⟨rfl, hb6⟩
        clear hwr hwr2
        have HN6 := Lib.hid (HN.out.below hb6)
        clear hb6 HN HTT
        have HN := HN6
        clear HN6
        have HTT := Lib.hid HN.out.bt
        go_upto_region 11 with (fail)
        clear kt0 kt1 kt2 kt3 kt4 kt5 kt6 kt7 kt8 kt9 kt10 kt11 kt12 kt13 kt14 HTT HWR hgt e1 e2
        as_aux_lemma =>
         -- w6: the world; 0: the row; a1, c1: where it lies; y.pa: the number; (dAt t i).pa: the list so far; 12: the next region; w7: the world behind
         have pB := HN.out.bw.cell (0 + 1)
         simp only [worldC, putR, List.getElem?_cons_zero, List.getElem?_cons_succ] at pB
         have HOW : Hid ((w6).ownsRow W2.heap.size 3 1 (.slice a1 i c1) i (((dAt t i).pa).map (.int .i64))) := Lib.hid (HN.out.own 0 (by decide))
         have HWN := Lib.hid (HOW.out.alloc (.cells #[.int .i64 y.pa] 3))
         have HNa := Lib.hid (HN.out.below (bl_a (Below.refl _ _) (.cells #[.int .i64 y.pa] 3)))
         have hzw : W2.heap.size ≤ (w6).heap.size := HN.out.hW
         have hzb : B < (w6).heap.size := HN.out.bw.lt
         go_wp2_with (at_builtin; refine wpList_append_lies _ rfl _ _ 23 rfl W2.heap.size 3 i0 (.int .i64 0) 1 8 Tryz.underlying23 hi hi1 hi2 hi3 rfl (by decide) _ i (((dAt t i).pa).map (.int .i64)) rfl HWN.out ⟨(w6).heap.size, 0, none⟩ 1 1 [.int .i64 y.pa] rfl rfl (int_newS _ _ _) (ow_one rfl) (by decide) (by unfold maxLen; omega) (by omega) (by simp; omega) _ rfl ?_; intro g1 k1 w3 hown3 hgrow3 hat3 hlt3; refine Hid.out ?_)
         refine Lib.hid ?_
         have HM3 := Lib.hid (HNa.out.mid (k := 0) (by decide) hgrow3)
         have HPUT := Lib.hid (HNa.out.put (k := 0) (by decide) hgrow3 (L := (dAt t i).pa ++ [y.pa]) (by rw [List.map_append]; exact hown3) (app_lie hat3))
         clear pB hown3 hgrow3 hat3 hzb HOW HWN HNa HN
         have q0 := HM3.out.2.2.cell (0 + 1)
         have q1 := HM3.out.2.2.fr (0 + 1)
         simp only [worldC, putR, List.getElem?_cons_zero, List.getElem?_cons_succ] at q0
         have hzb3 : B < w3.heap.size := HM3.out.2.2.lt
         go_upto_region 12 with (fail)
         generalize hWn : World.setCell w3 _ _ = w7
         have HN : Hid (NSt x t w W2 B w7 _ _) := Lib.hid (by rw [← hWn]; exact HPUT.out)
         clear hWn HPUT HM3 q0 q1 hzb3 hlt3 hzw
         -- w7: the world; 1: the row; a2, c2: where it lies; 0: the number; (dAt t i).ch: the list so far; 13: the next region; w8: the world behind
         have pB := HN.out.bw.cell (1 + 1)
         simp only [worldC, putR, List.getElem?_cons_zero, List.getElem?_cons_succ] at pB
         have HOW : Hid ((w7).ownsRow W2.heap.size 3 1 (.slice a2 i c2) i (((dAt t i).ch).map (.int .i64))) := Lib.hid (HN.out.own 1 (by decide))
         have HWN := Lib.hid (HOW.out.alloc (.cells #[.int .i64 0] 3))
         have HNa := Lib.hid (HN.out.below (bl_a (Below.refl _ _) (.cells #[.int .i64 0] 3)))
         have hzw : W2.heap.size ≤ (w7).heap.size := HN.out.hW
         have hzb : B < (w7).heap.size := HN.out.bw.lt
         go_wp2_with (at_builtin; refine wpList_append_lies _ rfl _ _ 23 rfl W2.heap.size 3 i0 (.int .i64 0) 1 8 Tryz.underlying23 hi hi1 hi2 hi3 rfl (by decide) _ i (((dAt t i).ch).map (.int .i64)) rfl HWN.out ⟨(w7).heap.size, 0, none⟩ 1 1 [.int .i64 0] rfl rfl (int_newS _ _ _) (ow_one rfl) (by decide) (by unfold maxLen; omega) (by omega) (by simp; omega) _ rfl ?_; intro g2 k2 w3 hown3 hgrow3 hat3 hlt3; refine Hid.out ?_)
         refine Lib.hid ?_
         have HM3 := Lib.hid (HNa.out.mid (k := 1) (by decide) hgrow3)
         have HPUT := Lib.hid (HNa.out.put (k := 1) (by decide) hgrow3 (L := (dAt t i).ch ++ [0]) (by rw [List.map_append]; exact hown3) (app_lie hat3))
         clear pB hown3 hgrow3 hat3 hzb HOW HWN HNa HN
         have q0 := HM3.out.2.2.cell (1 + 1)
         have q1 := HM3.out.2.2.fr (1 + 1)
         simp only [worldC, putR, List.getElem?_cons_zero, List.getElem?_cons_succ] at q0
         have hzb3 : B < w3.heap.size := HM3.out.2.2.lt
         go_upto_region 13 with (fail)
         generalize hWn : World.setCell w3 _ _ = w8
         have HN : Hid (NSt x t w W2 B w8 _ _) := Lib.hid (by rw [← hWn]; exact HPUT.out)
         clear hWn HPUT HM3 q0 q1 hzb3 hlt3 hzw
         -- w8: the world; 2: the row; a3, c3: where it lies; nxv: the number; (dAt t i).nx: the list so far; 14: the next region; w9: the world behind
         have pB := HN.out.bw.cell (2 + 1)
         simp only [worldC, putR, List.getElem?_cons_zero, List.getElem?_cons_succ] at pB
         have HOW : Hid ((w8).ownsRow W2.heap.size 3 1 (.slice a3 i c3) i (((dAt t i).nx).map (.int .i64))) := Lib.hid (HN.out.own 2 (by decide))
         have HWN := Lib.hid (HOW.out.alloc (.cells #[.int .i64 nxv] 3))
         have HNa := Lib.hid (HN.out.below (bl_a (Below.refl _ _) (.cells #[.int .i64 nxv] 3)))
         have hzw : W2.heap.size ≤ (w8).heap.size := HN.out.hW
         have hzb : B < (w8).heap.size := HN.out.bw.lt
         go_wp2_with (at_builtin; refine wpList_append_lies _ rfl _ _ 23 rfl W2.heap.size 3 i0 (.int .i64 0) 1 8 Tryz.underlying23 hi hi1 hi2 hi3 rfl (by decide) _ i (((dAt t i).nx).map (.int .i64)) rfl HWN.out ⟨(w8).heap.size, 0, none⟩ 1 1 [.int .i64 nxv] rfl rfl (int_newS _ _ _) (ow_one rfl) (by decide) (by unfold maxLen; omega) (by omega) (by simp; omega) _ rfl ?_; intro g3 k3 w3 hown3 hgrow3 hat3 hlt3; refine Hid.out ?_)
         refine Lib.hid ?_
         have HM3 := Lib.hid (HNa.out.mid (k := 2) (by decide) hgrow3)
         have HPUT := Lib.hid (HNa.out.put (k := 2) (by decide) hgrow3 (L := (dAt t i).nx ++ [nxv]) (by rw [List.map_append]; exact hown3) (app_lie hat3))
         clear pB hown3 hgrow3 hat3 hzb HOW HWN HNa HN
         have q0 := HM3.out.2.2.cell (2 + 1)
         have q1 := HM3.out.2.2.fr (2 + 1)
         simp only [worldC, putR, List.getElem?_cons_zero, List.getElem?_cons_succ] at q0
         have hzb3 : B < w3.heap.size := HM3.out.2.2.lt
         go_upto_region 14 with (fail)
         generalize hWn : World.setCell w3 _ _ = w9
         have HN : Hid (NSt x t w W2 B w9 _ _) := Lib.hid (by rw [← hWn]; exact HPUT.out)
         clear hWn HPUT HM3 q0 q1 hzb3 hlt3 hzw
         as_aux_lemma =>
          have HOW : Hid (w9.ownsRow W2.heap.size 3 1 (.slice a4 i c4) i ((dAt t i).fl.map (.int .i64))) := Lib.hid (HN.out.own 3 (by decide))
          have hzw : W2.heap.size ≤ w9.heap.size := HN.out.hW
          have HRD : Hid (∀ w' : World, (w9.heap.size ≤ w'.heap.size ∧ ∀ z, z < w9.heap.size → (Value.slice a4 i c4).ownBlock ≠ some z → w'.heap[z]? = w9.heap[z]?) →
              w'.cell? ⟨B, 4, none⟩ = some (.slice a4 i c4) ∧ w'.cell? ⟨w.heap.size, 8, none⟩ = some (.slice (some ⟨b, off, none⟩) t.th.length x.c8) ∧ w'.cell? ⟨b, off + i * 9 + 3, none⟩ = some (.int .i64 y.fl) ∧ b < w'.heap.size ∧ B < w'.heap.size) := Lib.hid (fun w' hS => by
           have hlo : ∀ z, z < W2.heap.size → (Value.slice a4 i c4).ownBlock ≠ some z := fun z hz e => by have := ow_lo HOW.out z e; omega
           have h1 := HN.out.hBF
           have h2 := HN.out.hB
           have h3 := HN.out.hW
           refine ⟨?_, ?_, ?_, by omega, by omega⟩
           · rw [World.cell?_of_block (a := ⟨B, 4, none⟩) (hS.2 B (by omega) (hlo B (by omega)))]; exact HN.out.bw.cell 4
           · rw [World.cell?_of_block (a := ⟨w.heap.size, 8, none⟩) (hS.2 w.heap.size (by omega) (hlo _ (by omega))), ← HX8.out]; exact HN.out.bt.cell 8
           · rw [World.cell?_of_block (a := ⟨b, off + i * 9 + 3, none⟩) (hS.2 b (by omega) (hlo b (by omega)))]; exact (HCE.out w9 HN.out.bl).2.1)
          have hiz : (0 : Int) ≤ (i : Int) := by omega
          have hit : (i : Int) < (t.th.length : Int) := by omega
          refine region_last (.rd 0 (.rd 1 (.rd 2 (.rd 3 (.rd 4 (.rd 5 (.rd 6 (.rd 7 (.one 8 (.one 9 (.one 10 .done))))))))))) (fun w' : World => w9.heap.size ≤ w'.heap.size ∧ ∀ z, z < w9.heap.size → (Value.slice a4 i c4).ownBlock ≠ some z → w'.heap[z]? = w9.heap[z]?) (by kernel_rfl) (by kernel_rfl) ⟨Nat.le_refl _, fun _ _ _ => rfl⟩ (fun KK hKK => ?_)
          intro OPS
          simp only [Ways.see, List.getElem?_cons_zero, List.getElem?_cons_succ]
          iterate 8
           (refine' inWays_read ?_ ?_ ?_ ?_
            rotate_left 2
            · rfl
            · (intro w' hS; obtain ⟨r0, r1, r2, r3, r4⟩ := HRD.out w' hS; go_simp; first | with_reducible rfl | skip)
            · (simp only [Act.put, List.setIfInBounds_toArray, List.set_cons_zero, List.set_cons_succ]; with_reducible rfl))
          refine' inWays_val ?_ ?_ ?_ ?_ ?_
          rotate_left 3
          · rfl
          · (go_simp; first | exact ⟨rfl, rfl⟩ | with_reducible rfl)
          · exact sk_alloc _
          · (simp only [Act.put, List.setIfInBounds_toArray, List.set_cons_zero, List.set_cons_succ]; with_reducible rfl)
          generalize hWa : World.drew (World.alloc w9 _) = Wa
          have HWN : Hid (Wa.ownsRow W2.heap.size 3 1 (.slice a4 i c4) i ((dAt t i).fl.map (.int .i64))) := Lib.hid (by rw [← hWa]; exact HOW.out.alloc _)
          have HNE : Hid (∀ j v, ([Value.int .i64 y.fl] : List Value)[j]? = some v → Wa.cell? ((⟨w9.heap.size, 0, none⟩ : Addr).add j) = some v) := Lib.hid (by rw [← hWa]; exact int_newS w9 y.fl 3)
          have HNa : Hid (NSt x t w W2 B Wa _ _) := Lib.hid (HN.out.below (w' := Wa) (by rw [← hWa]; exact (bl_a (Below.refl _ _) _).drew))
          have HSA : Hid (w9.heap.size ≤ Wa.heap.size ∧ ∀ z, z < w9.heap.size → (Value.slice a4 i c4).ownBlock ≠ some z → Wa.heap[z]? = w9.heap[z]?) := Lib.hid (by rw [← hWa]; exact sk_alloc _)
          clear hWa
          refine inWays_append rfl _ _ 23 rfl W2.heap.size 3 i0 (.int .i64 0) 1 8 Tryz.underlying23 hi hi1 hi2 hi3 rfl (by decide) _ i ((dAt t i).fl.map (.int .i64)) rfl HWN.out ⟨w9.heap.size, 0, none⟩ 1 1 [.int .i64 y.fl] rfl rfl HNE.out (ow_one rfl) (by decide) (by unfold maxLen; omega) (by omega) (Nat.le_trans hzw HSA.out.1) (fun g4 k4 w3 hown3 hgrow3 hat3 hlt3 => ⟨sk_then HSA.out hgrow3, ?_⟩)
          simp only [Act.put, List.setIfInBounds_toArray, List.set_cons_zero, List.set_cons_succ]
          refine' inWays_val ?_ ?_ ?_ ?_ ?_
          rotate_left 3
          · rfl
          · (go_simp; first | exact ⟨rfl, rfl⟩ | with_reducible rfl)
          · exact sk_then HSA.out hgrow3
          · (simp only [Act.put, List.setIfInBounds_toArray, List.set_cons_zero, List.set_cons_succ]; with_reducible rfl)
          refine inWays_nil (hKK.out _ _ ?_)
          have HM3 := Lib.hid (HNa.out.mid (k := 3) (by decide) hgrow3)
          have HPUT := Lib.hid (HNa.out.put (k := 3) (by decide) hgrow3 (L := (dAt t i).fl ++ [y.fl]) (by rw [List.map_append]; exact hown3) (app_lie hat3))
          clear hown3 hgrow3 hat3 HOW HWN HNE HNa HSA HRD HN hKK
          have q0 := HM3.out.2.2.cell 4
          have q1 := HM3.out.2.2.fr 4
          simp only [worldC, putR, List.getElem?_cons_zero, List.getElem?_cons_succ] at q0
          have hzb3 : B < w3.heap.size := HM3.out.2.2.lt
          simp only [List.length_cons, List.length_nil, Nat.zero_add, Nat.reduceAdd, Nat.reduceSub, List.drop_succ_cons, List.drop_zero]
          go_upto_region 15 with (fail)
          generalize hWn : World.setCell w3 _ _ = w10
          have HN : Hid (NSt x t w W2 B w10 _ _) := Lib.hid (by rw [← hWn]; exact HPUT.out)
          clear hWn HPUT HM3 q0 q1 hzb3 hlt3 hzw
          as_aux_lemma =>
           have HOW : Hid (w10.drew.ownsRow W2.heap.size 3 1 (.slice a5 l5 c5) l5 ((dAt t i).pr.map (.int .i64))) := Lib.hid (HN.out.own 4 (by decide))
           have hzw : W2.heap.size ≤ w10.heap.size := HN.out.hW
           obtain ⟨_, _, hzp, hzi⟩ := HCE.out w10 HN.out.bl
           have HRD : Hid (∀ w' : World, (w10.heap.size ≤ w'.heap.size ∧ ∀ z, z < w10.heap.size → (Value.slice a5 l5 c5).ownBlock ≠ some z → w'.heap[z]? = w10.heap[z]?) →
               w'.cell? ⟨B, 5, none⟩ = some (.slice a5 l5 c5) ∧ w'.cell? ⟨w.heap.size, 8, none⟩ = some (.slice (some ⟨b, off, none⟩) t.th.length x.c8) ∧ w'.cell? ⟨b, off + i * 9 + 5, none⟩ = some (.slice ra y.pr.length rc) ∧ b < w'.heap.size ∧ B < w'.heap.size) := Lib.hid (fun w' hS => by
            have hlo : ∀ z, z < W2.heap.size → (Value.slice a5 l5 c5).ownBlock ≠ some z := fun z hz e => by have := ow_lo HOW.out z e; omega
            have h1 := HN.out.hBF
            have h2 := HN.out.hB
            have h3 := HN.out.hW
            refine ⟨?_, ?_, ?_, by omega, by omega⟩
            · rw [World.cell?_of_block (a := ⟨B, 5, none⟩) (hS.2 B (by omega) (hlo B (by omega)))]; exact HN.out.bw.cell 5
            · rw [World.cell?_of_block (a := ⟨w.heap.size, 8, none⟩) (hS.2 w.heap.size (by omega) (hlo _ (by omega))), ← HX8.out]; exact HN.out.bt.cell 8
            · rw [World.cell?_of_block (a := ⟨b, off + i * 9 + 5, none⟩) (hS.2 b (by omega) (hlo b (by omega)))]; exact hzp)
           obtain ⟨v5, w3, hr5, hown3, hgrow3, hlie3⟩ := app_ints w10.drew W2.heap.size _ l5 _ HOW.out ra rc y.pr hzi (by have := HPy.out.2.2.2; omega) hzw 23
           have hlie4 : v5.ownBlock = (Value.slice a5 l5 c5).ownBlock ∨ ∀ b, v5.ownBlock = some b → w10.drew.heap.size ≤ b := by
            rcases hlie3 with h | h
            · exact .inl h
            · exact .inr (fun b hb => by rw [h] at hb; exact Nat.le_of_eq (Option.some.inj hb))
           obtain ⟨a6, c6, rfl⟩ := ow_shape hown3
           have HNd : Hid (NSt x t w W2 B w10.drew _ _) := Lib.hid (HN.out.below ((Below.refl _ _).drew))
           have HSK : Hid (w10.heap.size ≤ w3.heap.size ∧ ∀ z, z < w10.heap.size → (Value.slice a5 l5 c5).ownBlock ≠ some z → w3.heap[z]? = w10.heap[z]?) := Lib.hid ⟨hgrow3.size, fun z hz hr => hgrow3.block z hz (fun e => hr e.symm)⟩
           have HM3 := Lib.hid (HNd.out.mid (k := 4) (by decide) hgrow3)
           have HPUT := Lib.hid (HNd.out.put (k := 4) (by decide) hgrow3 (L := (dAt t i).pr ++ y.pr) (by rw [List.map_append]; exact hown3) hlie4)
           have HRUN := Lib.hid hr5
           clear hown3 hgrow3 hlie3 hlie4 hr5 HOW HNd HN hzi hzp
           have hiz : (0 : Int) ≤ (i : Int) := by omega
           have hit : (i : Int) < (t.th.length : Int) := by omega
           refine region_last (.rd 0 (.rd 1 (.rd 2 (.rd 3 (.rd 4 (.rd 5 (.rd 6 (.rd 7 (.one 8 (.one 9 .done)))))))))) (fun w' : World => w10.heap.size ≤ w'.heap.size ∧ ∀ z, z < w10.heap.size → (Value.slice a5 l5 c5).ownBlock ≠ some z → w'.heap[z]? = w10.heap[z]?) (by kernel_rfl) (by kernel_rfl) ⟨Nat.le_refl _, fun _ _ _ => rfl⟩ (fun KK hKK => ?_)
           intro OPS
           simp only [Ways.see, List.getElem?_cons_zero, List.getElem?_cons_succ]
           iterate 8
            (refine' inWays_read ?_ ?_ ?_ ?_
             rotate_left 2
             · rfl
             · (intro w' hS; obtain ⟨r0, r1, r2, r3, r4⟩ := HRD.out w' hS; go_simp; first | with_reducible rfl | skip)
             · (simp only [Act.put, List.setIfInBounds_toArray, List.set_cons_zero, List.set_cons_succ]; with_reducible rfl))
           refine inWays_val rfl (run_app (.tmp 75) (.tmp 81) 23 rfl rfl rfl HRUN.out) HSK.out rfl ?_
           simp only [Act.put, List.setIfInBounds_toArray, List.set_cons_zero, List.set_cons_succ]
           refine' inWays_val ?_ ?_ ?_ ?_ ?_
           rotate_left 3
           · rfl
           · (go_simp; first | exact ⟨rfl, rfl⟩ | with_reducible rfl)
           · exact HSK.out
           · (simp only [Act.put, List.setIfInBounds_toArray, List.set_cons_zero, List.set_cons_succ]; with_reducible rfl)
           refine inWays_nil (hKK.out _ _ ?_)
           clear hKK HRD HRUN HSK
           have q0 := HM3.out.2.2.cell 5
           have q1 := HM3.out.2.2.fr 5
           simp only [worldC, putR, List.getElem?_cons_zero, List.getElem?_cons_succ] at q0
           have hzb3 : B < w3.heap.size := HM3.out.2.2.lt
           have hpl := HPy.out.2.2.2
           have HFIN : Hid (NSt x t w W2 B (w3.setCell ⟨B, 5, none⟩ (.slice a6 (l5 + y.pr.length) c6)) _ (dAt t (i + 1))) := Lib.hid (by rw [HDA.out]; exact HPUT.out)
           clear HPUT HM3
           simp only [List.length_cons, List.length_nil, Nat.zero_add, Nat.reduceAdd, Nat.reduceSub, List.drop_succ_cons, List.drop_zero]
           go_wp2_with fail
           go_roundw
           case rel => exact ⟨i + 1, l5 + y.pr.length, _, _, _, _, _, _, _, _, _, _, by go_num, by omega, by omega, HFIN⟩
           case measure => simp [intOf]; omega
    · have hgt : (0 : Int) < (i : Int) := by omega
      have hgtN : 0 < i := by omega
      have hcv : afterI (t.th.map (·.pa)) i (t.th.length - 1) 1 = chv := by
       have := HCH.out
       rw [if_neg hi0] at this
       exact this.symm
      rw [hcv, show (((1 : Nat)) : Int) = 1 from rfl] at HA1
      clear hcv hi0
      go_wp2_with fail
      refine (HA1.out _ HN.out.bl).mono ?_
      rintro e w5 ⟨rfl, hb5⟩
      have HN5 := Lib.hid (HN.out.below hb5)
      clear hb5 HN kt0 kt1 kt2 kt3 kt4 kt5 kt6 kt7 kt8 kt9 kt10 kt11 kt12 kt13 kt14 HTT z2 z3 z5
      have HN := HN5
      clear HN5
      have HTT := Lib.hid HN.out.bt
      obtain ⟨kt0, kt1, kt2, kt3, kt4, kt5, kt6, kt7, kt8, kt9, kt10, kt11, kt12, kt13, kt14⟩ := tab15 (HTT.out)
      rw [HX8.out] at kt8
      have hzs5 : w.heap.size < w5.heap.size := HTT.out.lt
      by_cases hp0 : y.pa = 0
      · have hnv : nxv = 0 := by rw [HNX.out, if_pos hp0]
        have e1 : (y.pa != 0) = false := by simp [hp0]
        have e2 : (y.pa == 0) = true := by simp [hp0]
        subst hnv
        clear hp0
        go_upto_region 11 with (fail)
        clear kt0 kt1 kt2 kt3 kt4 kt5 kt6 kt7 kt8 kt9 kt10 kt11 kt12 kt13 kt14 HTT HWR hgt e1 e2
        as_aux_lemma =>
         -- w5: the world; 0: the row; a1, c1: where it lies; y.pa: the number; (dAt t i).pa: the list so far; 12: the next region; w7: the world behind
         have pB := HN.out.bw.cell (0 + 1)
         simp only [worldC, putR, List.getElem?_cons_zero, List.getElem?_cons_succ] at pB
         have HOW : Hid ((w5).ownsRow W2.heap.size 3 1 (.slice a1 i c1) i (((dAt t i).pa).map (.int .i64))) := Lib.hid (HN.out.own 0 (by decide))
         have HWN := Lib.hid (HOW.out.alloc (.cells #[.int .i64 y.pa] 3))
         have HNa := Lib.hid (HN.out.below (bl_a (Below.refl _ _) (.cells #[.int .i64 y.pa] 3)))
         have hzw : W2.heap.size ≤ (w5).heap.size := HN.out.hW
         have hzb : B < (w5).heap.size := HN.out.bw.lt
         go_wp2_with (at_builtin; refine wpList_append_lies _ rfl _ _ 23 rfl W2.heap.size 3 i0 (.int .i64 0) 1 8 Tryz.underlying23 hi hi1 hi2 hi3 rfl (by decide) _ i (((dAt t i).pa).map (.int .i64)) rfl HWN.out ⟨(w5).heap.size, 0, none⟩ 1 1 [.int .i64 y.pa] rfl rfl (int_newS _ _ _) (ow_one rfl) (by decide) (by unfold maxLen; omega) (by omega) (by simp; omega) _ rfl ?_; intro g1 k1 w3 hown3 hgrow3 hat3 hlt3; refine Hid.out ?_)
         refine Lib.hid ?_
         have HM3 := Lib.hid (HNa.out.mid (k := 0) (by decide) hgrow3)
         have HPUT := Lib.hid (HNa.out.put (k := 0) (by decide) hgrow3 (L := (dAt t i).pa ++ [y.pa]) (by rw [List.map_append]; exact hown3) (app_lie hat3))
         clear pB hown3 hgrow3 hat3 hzb HOW HWN HNa HN
         have q0 := HM3.out.2.2.cell (0 + 1)
         have q1 := HM3.out.2.2.fr (0 + 1)
         simp only [worldC, putR, List.getElem?_cons_zero, List.getElem?_cons_succ] at q0
         have hzb3 : B < w3.heap.size := HM3.out.2.2.lt
         go_upto_region 12 with (fail)
         generalize hWn : World.setCell w3 _ _ = w7
         have HN : Hid (NSt x t w W2 B w7 _ _) := Lib.hid (by rw [← hWn]; exact HPUT.out)
         clear hWn HPUT HM3 q0 q1 hzb3 hlt3 hzw
         -- w7: the world; 1: the row; a2, c2: where it lies; chv: the number; (dAt t i).ch: the list so far; 13: the next region; w8: the world behind
         have pB := HN.out.bw.cell (1 + 1)
         simp only [worldC, putR, List.getElem?_cons_zero, List.getElem?_cons_succ] at pB
         have HOW : Hid ((w7).ownsRow W2.heap.size 3 1 (.slice a2 i c2) i (((dAt t i).ch).map (.int .i64))) := Lib.hid (HN.out.own 1 (by decide))
         have HWN := Lib.hid (HOW.out.alloc (.cells #[.int .i64 chv] 3))
         have HNa := Lib.hid (HN.out.below (bl_a (Below.refl _ _) (.cells #[.int .i64 chv] 3)))
         have hzw : W2.heap.size ≤ (w7).heap.size := HN.out.hW
         have hzb : B < (w7).heap.size := HN.out.bw.lt
         go_wp2_with (at_builtin; refine wpList_append_lies _ rfl _ _ 23 rfl W2.heap.size 3 i0 (.int .i64 0) 1 8 Tryz.underlying23 hi hi1 hi2 hi3 rfl (by decide) _ i (((dAt t i).ch).map (.int .i64)) rfl HWN.out ⟨(w7).heap.size, 0, none⟩ 1 1 [.int .i64 chv] rfl rfl (int_newS _ _ _) (ow_one rfl) (by decide) (by unfold maxLen; omega) (by omega) (by simp; omega) _ rfl ?_; intro g2 k2 w3 hown3 hgrow3 hat3 hlt3; refine Hid.out ?_)
         refine Lib.hid ?_
         have HM3 := Lib.hid (HNa.out.mid (k := 1) (by decide) hgrow3)
         have HPUT := Lib.hid (HNa.out.put (k := 1) (by decide) hgrow3 (L := (dAt t i).ch ++ [chv]) (by rw [List.map_append]; exact hown3) (app_lie hat3))
         clear pB hown3 hgrow3 hat3 hzb HOW HWN HNa HN
         have q0 := HM3.out.2.2.cell (1 + 1)
         have q1 := HM3.out.2.2.fr (1 + 1)
         simp only [worldC, putR, List.getElem?_cons_zero, List.getElem?_cons_succ] at q0
         have hzb3 : B < w3.heap.size := HM3.out.2.2.lt
         go_upto_region 13 with (fail)
         generalize hWn : World.setCell w3 _ _ = w8
         have HN : Hid (NSt x t w W2 B w8 _ _) := Lib.hid (by rw [← hWn]; exact HPUT.out)
         clear hWn HPUT HM3 q0 q1 hzb3 hlt3 hzw
         -- w8: the world; 2: the row; a3, c3: where it lies; 0: the number; (dAt t i).nx: the list so far; 14: the next region; w9: the world behind
         have pB := HN.out.bw.cell (2 + 1)
         simp only [worldC, putR, List.getElem?_cons_zero, List.getElem?_cons_succ] at pB
         have HOW : Hid ((w8).ownsRow W2.heap.size 3 1 (.slice a3 i c3) i (((dAt t i).nx).map (.int .i64))) := Lib.hid (HN.out.own 2 (by decide))
         have HWN := Lib.hid (HOW.out.alloc (.cells #[.int .i64 0] 3))
         have HNa := Lib.hid (HN.out.below (bl_a (Below.refl _ _) (.cells #[.int .i64 0] 3)))
         have hzw : W2.heap.size ≤ (w8).heap.size := HN.out.hW
         have hzb : B < (w8).heap.size := HN.out.bw.lt
         go_wp2_with (at_builtin; refine wpList_append_lies _ rfl _ _ 23 rfl W2.heap.size 3 i0 (.int .i64 0) 1 8 Tryz.underlying23 hi hi1 hi2 hi3 rfl (by decide) _ i (((dAt t i).nx).map (.int .i64)) rfl HWN.out ⟨(w8).heap.size, 0, none⟩ 1 1 [.int .i64 0] rfl rfl (int_newS _ _ _) (ow_one rfl) (by decide) (by unfold maxLen; omega) (by omega) (by simp; omega) _ rfl ?_; intro g3 k3 w3 hown3 hgrow3 hat3 hlt3; refine Hid.out ?_)
         refine Lib.hid ?_
         have HM3 := Lib.hid (HNa.out.mid (k := 2) (by decide) hgrow3)
         have HPUT := Lib.hid (HNa.out.put (k := 2) (by decide) hgrow3 (L := (dAt t i).nx ++ [0]) (by rw [List.map_append]; exact hown3) (app_lie hat3))
         clear pB hown3 hgrow3 hat3 hzb HOW HWN HNa HN
         have q0 := HM3.out.2.2.cell (2 + 1)
         have q1 := HM3.out.2.2.fr (2 + 1)
         simp only [worldC, putR, List.getElem?_cons_zero, List.getElem?_cons_succ] at q0
         have hzb3 : B < w3.heap.size := HM3.out.2.2.lt
         go_upto_region 14 with (fail)
         generalize hWn : World.setCell w3 _ _ = w9
         have HN : Hid (NSt x t w W2 B w9 _ _) := Lib.hid (by rw [← hWn]; exact HPUT.out)
         clear hWn HPUT HM3 q0 q1 hzb3 hlt3 hzw
         as_aux_lemma =>
          have HOW : Hid (w9.ownsRow W2.heap.size 3 1 (.slice a4 i c4) i ((dAt t i).fl.map (.int .i64))) := Lib.hid (HN.out.own 3 (by decide))
          have hzw : W2.heap.size ≤ w9.heap.size := HN.out.hW
          have HRD : Hid (∀ w' : World, (w9.heap.size ≤ w'.heap.size ∧ ∀ z, z < w9.heap.size → (Value.slice a4 i c4).ownBlock ≠ some z → w'.heap[z]? = w9.heap[z]?) →
              w'.cell? ⟨B, 4, none⟩ = some (.slice a4 i c4) ∧ w'.cell? ⟨w.heap.size, 8, none⟩ = some (.slice (some ⟨b, off, none⟩) t.th.length x.c8) ∧ w'.cell? ⟨b, off + i * 9 + 3, none⟩ = some (.int .i64 y.fl) ∧ b < w'.heap.size ∧ B < w'.heap.size) := Lib.hid (fun w' hS => by
           have hlo : ∀ z, z < W2.heap.size → (Value.slice a4 i c4).ownBlock ≠ some z := fun z hz e => by have := ow_lo HOW.out z e; omega
           have h1 := HN.out.hBF
           have h2 := HN.out.hB
           have h3 := HN.out.hW
           refine ⟨?_, ?_, ?_, by omega, by omega⟩
           · rw [World.cell?_of_block (a := ⟨B, 4, none⟩) (hS.2 B (by omega) (hlo B (by omega)))]; exact HN.out.bw.cell 4
           · rw [World.cell?_of_block (a := ⟨w.heap.size, 8, none⟩) (hS.2 w.heap.size (by omega) (hlo _ (by omega))), ← HX8.out]; exact HN.out.bt.cell 8
           · rw [World.cell?_of_block (a := ⟨b, off + i * 9 + 3, none⟩) (hS.2 b (by omega) (hlo b (by omega)))]; exact (HCE.out w9 HN.out.bl).2.1)
          have hiz : (0 : Int) ≤ (i : Int) := by omega
          have hit : (i : Int) < (t.th.length : Int) := by omega
          refine region_last (.rd 0 (.rd 1 (.rd 2 (.rd 3 (.rd 4 (.rd 5 (.rd 6 (.rd 7 (.one 8 (.one 9 (.one 10 .done))))))))))) (fun w' : World => w9.heap.size ≤ w'.heap.size ∧ ∀ z, z < w9.heap.size → (Value.slice a4 i c4).ownBlock ≠ some z → w'.heap[z]? = w9.heap[z]?) (by kernel_rfl) (by kernel_rfl) ⟨Nat.le_refl _, fun _ _ _ => rfl⟩ (fun KK hKK => ?_)
          intro OPS
          simp only [Ways.see, List.getElem?_cons_zero, List.getElem?_cons_succ]
          iterate 8
           (refine' inWays_read ?_ ?_ ?_ ?_
            rotate_left 2
            · rfl
            · (intro w' hS; obtain ⟨r0, r1, r2, r3, r4⟩ := HRD.out w' hS; go_simp; first | with_reducible rfl | skip)
            · (simp only [Act.put, List.setIfInBounds_toArray, List.set_cons_zero, List.set_cons_succ]; with_reducible rfl))
          refine' inWays_val ?_ ?_ ?_ ?_ ?_
          rotate_left 3
          · rfl
          · (go_simp; first | exact ⟨rfl, rfl⟩ | with_reducible rfl)
          · exact sk_alloc _
          · (simp only [Act.put, List.setIfInBounds_toArray, List.set_cons_zero, List.set_cons_succ]; with_reducible rfl)
          generalize hWa : World.drew (World.alloc w9 _) = Wa
          have HWN : Hid (Wa.ownsRow W2.heap.size 3 1 (.slice a4 i c4) i ((dAt t i).fl.map (.int .i64))) := Lib.hid (by rw [← hWa]; exact HOW.out.alloc _)
          have HNE : Hid (∀ j v, ([Value.int .i64 y.fl] : List Value)[j]? = some v → Wa.cell? ((⟨w9.heap.size, 0, none⟩ : Addr).add j) = some v) := Lib.hid (by rw [← hWa]; exact int_newS w9 y.fl 3)
          have HNa : Hid (NSt x t w W2 B Wa _ _) := Lib.hid (HN.out.below (w' := Wa) (by rw [← hWa]; exact (bl_a (Below.refl _ _) _).drew))
          have HSA : Hid (w9.heap.size ≤ Wa.heap.size ∧ ∀ z, z < w9.heap.size → (Value.slice a4 i c4).ownBlock ≠ some z → Wa.heap[z]? = w9.heap[z]?) := Lib.hid (by rw [← hWa]; exact sk_alloc _)
          clear hWa
          refine inWays_append rfl _ _ 23 rfl W2.heap.size 3 i0 (.int .i64 0) 1 8 Tryz.underlying23 hi hi1 hi2 hi3 rfl (by decide) _ i ((dAt t i).fl.map (.int .i64)) rfl HWN.out ⟨w9.heap.size, 0, none⟩ 1 1 [.int .i64 y.fl] rfl rfl HNE.out (ow_one rfl) (by decide) (by unfold maxLen; omega) (by omega) (Nat.le_trans hzw HSA.out.1) (fun g4 k4 w3 hown3 hgrow3 hat3 hlt3 => ⟨sk_then HSA.out hgrow3, ?_⟩)
          simp only [Act.put, List.setIfInBounds_toArray, List.set_cons_zero, List.set_cons_succ]
          refine' inWays_val ?_ ?_ ?_ ?_ ?_
          rotate_left 3
          · rfl
          · (go_simp; first | exact ⟨rfl, rfl⟩ | with_reducible rfl)
          · exact sk_then HSA.out hgrow3
          · (simp only [Act.put, List.setIfInBounds_toArray, List.set_cons_zero, List.set_cons_succ]; with_reducible rfl)
          refine inWays_nil (hKK.out _ _ ?_)
          have HM3 := Lib.hid (HNa.out.mid (k := 3) (by decide) hgrow3)
          have HPUT := Lib.hid (HNa.out.put (k := 3) (by decide) hgrow3 (L := (dAt t i).fl ++ [y.fl]) (by rw [List.map_append]; exact hown3) (app_lie hat3))
          clear hown3 hgrow3 hat3 HOW HWN HNE HNa HSA HRD HN hKK
          have q0 := HM3.out.2.2.cell 4
          have q1 := HM3.out.2.2.fr 4
          simp only [worldC, putR, List.getElem?_cons_zero, List.getElem?_cons_succ] at q0
          have hzb3 : B < w3.heap.size := HM3.out.2.2.lt
          simp only [List.length_cons, List.length_nil, Nat.zero_add, Nat.reduceAdd, Nat.reduceSub, List.drop_succ_cons, List.drop_zero]
          go_upto_region 15 with (fail)
          generalize hWn : World.setCell w3 _ _ = w10
          have HN : Hid (NSt x t w W2 B w10 _ _) := Lib.hid (by rw [← hWn]; exact HPUT.out)
          clear hWn HPUT HM3 q0 q1 hzb3 hlt3 hzw
          as_aux_lemma =>
           have HOW : Hid (w10.drew.ownsRow W2.heap.size 3 1 (.slice a5 l5 c5) l5 ((dAt t i).pr.map (.int .i64))) := Lib.hid (HN.out.own 4 (by decide))
           have hzw : W2.heap.size ≤ w10.heap.size := HN.out.hW
           obtain ⟨_, _, hzp, hzi⟩ := HCE.out w10 HN.out.bl
           have HRD : Hid (∀ w' : World, (w10.heap.size ≤ w'.heap.size ∧ ∀ z, z < w10.heap.size → (Value.slice a5 l5 c5).ownBlock ≠ some z → w'.heap[z]? = w10.heap[z]?) →
               w'.cell? ⟨B, 5, none⟩ = some (.slice a5 l5 c5) ∧ w'.cell? ⟨w.heap.size, 8, none⟩ = some (.slice (some ⟨b, off, none⟩) t.th.length x.c8) ∧ w'.cell? ⟨b, off + i * 9 + 5, none⟩ = some (.slice ra y.pr.length rc) ∧ b < w'.heap.size ∧ B < w'.heap.size) := Lib.hid (fun w' hS => by
            have hlo : ∀ z, z < W2.heap.size → (Value.slice a5 l5 c5).ownBlock ≠ some z := fun z hz e => by have := ow_lo HOW.out z e; omega
            have h1 := HN.out.hBF
            have h2 := HN.out.hB
            have h3 := HN.out.hW
            refine ⟨?_, ?_, ?_, by omega, by omega⟩
            · rw [World.cell?_of_block (a := ⟨B, 5, none⟩) (hS.2 B (by omega) (hlo B (by omega)))]; exact HN.out.bw.cell 5
            · rw [World.cell?_of_block (a := ⟨w.heap.size, 8, none⟩) (hS.2 w.heap.size (by omega) (hlo _ (by omega))), ← HX8.out]; exact HN.out.bt.cell 8
            · rw [World.cell?_of_block (a := ⟨b, off + i * 9 + 5, none⟩) (hS.2 b (by omega) (hlo b (by omega)))]; exact hzp)
           obtain ⟨v5, w3, hr5, hown3, hgrow3, hlie3⟩ := app_ints w10.drew W2.heap.size _ l5 _ HOW.out ra rc y.pr hzi (by have := HPy.out.2.2.2; omega) hzw 23
           have hlie4 : v5.ownBlock = (Value.slice a5 l5 c5).ownBlock ∨ ∀ b, v5.ownBlock = some b → w10.drew.heap.size ≤ b := by
            rcases hlie3 with h | h
            · exact .inl h
            · exact .inr (fun b hb => by rw [h] at hb; exact Nat.le_of_eq (Option.some.inj hb))
           obtain ⟨a6, c6, rfl⟩ := ow_shape hown3
           have HNd : Hid (NSt x t w W2 B w10.drew _ _) := Lib.hid (HN.out.below ((Below.refl _ _).drew))
           have HSK : Hid (w10.heap.size ≤ w3.heap.size ∧ ∀ z, z < w10.heap.size → (Value.slice a5 l5 c5).ownBlock ≠ some z → w3.heap[z]? = w10.heap[z]?) := Lib.hid ⟨hgrow3.size, fun z hz hr => hgrow3.block z hz (fun e => hr e.symm)⟩
           have HM3 := Lib.hid (HNd.out.mid (k := 4) (by decide) hgrow3)
           have HPUT := Lib.hid (HNd.out.put (k := 4) (by decide) hgrow3 (L := (dAt t i).pr ++ y.pr) (by rw [List.map_append]; exact hown3) hlie4)
           have HRUN := Lib.hid hr5
           clear hown3 hgrow3 hlie3 hlie4 hr5 HOW HNd HN hzi hzp
           have hiz : (0 : Int) ≤ (i : Int) := by omega
           have hit : (i : Int) < (t.th.length : Int) := by omega
           refine region_last (.rd 0 (.rd 1 (.rd 2 (.rd 3 (.rd 4 (.rd 5 (.rd 6 (.rd 7 (.one 8 (.one 9 .done)))))))))) (fun w' : World => w10.heap.size ≤ w'.heap.size ∧ ∀ z, z < w10.heap.size → (Value.slice a5 l5 c5).ownBlock ≠ some z → w'.heap[z]? = w10.heap[z]?) (by kernel_rfl) (by kernel_rfl) ⟨Nat.le_refl _, fun _ _ _ => rfl⟩ (fun KK hKK => ?_)
           intro OPS
           simp only [Ways.see, List.getElem?_cons_zero, List.getElem?_cons_succ]
           iterate 8
            (refine' inWays_read ?_ ?_ ?_ ?_
             rotate_left 2
             · rfl
             · (intro w' hS; obtain ⟨r0, r1, r2, r3, r4⟩ := HRD.out w' hS; go_simp; first | with_reducible rfl | skip)
             · (simp only [Act.put, List.setIfInBounds_toArray, List.set_cons_zero, List.set_cons_succ]; with_reducible rfl))
           refine inWays_val rfl (run_app (.tmp 75) (.tmp 81) 23 rfl rfl rfl HRUN.out) HSK.out rfl ?_
           simp only [Act.put, List.setIfInBounds_toArray, List.set_cons_zero, List.set_cons_succ]
           refine' inWays_val ?_ ?_ ?_ ?_ ?_
           rotate_left 3
           · rfl
           · (go_simp; first | exact ⟨rfl, rfl⟩ | with_reducible rfl)
           · exact HSK.out
           · (simp only [Act.put, List.setIfInBounds_toArray, List.set_cons_zero, List.set_cons_succ]; with_reducible rfl)
           refine inWays_nil (hKK.out _ _ ?_)
           clear hKK HRD HRUN HSK
           have q0 := HM3.out.2.2.cell 5
           have q1 := HM3.out.2.2.fr 5
           simp only [worldC, putR, List.getElem?_cons_zero, List.getElem?_cons_succ] at q0
           have hzb3 : B < w3.heap.size := HM3.out.2.2.lt
           have hpl := HPy.out.2.2.2
           have HFIN : Hid (NSt x t w W2 B (w3.setCell ⟨B, 5, none⟩ (.slice a6 (l5 + y.pr.length) c6)) _ (dAt t (i + 1))) := Lib.hid (by rw [HDA.out]; exact HPUT.out)
           clear HPUT HM3
           simp only [List.length_cons, List.length_nil, Nat.zero_add, Nat.reduceAdd, Nat.reduceSub, List.drop_succ_cons, List.drop_zero]
           go_wp2_with fail
           go_roundw
           case rel => exact ⟨i + 1, l5 + y.pr.length, _, _, _, _, _, _, _, _, _, _, by go_num, by omega, by omega, HFIN⟩
           case measure => simp [intOf]; omega
      · have e1 : (y.pa != 0) = true := by simp [hp0]
        have e2 : (y.pa == 0) = false := by simp [hp0]
        have hcn : afterI (t.th.map (·.pa)) y.pa (t.th.length - (i + 1)) (i + 1) = nxv := by
         have := HNX.out
         rw [if_neg hp0] at this
         exact this.symm
        rw [hcn] at HA2
        clear hcn hp0
        have hwr := HWR.out.1
        have hwr2 := HWR.out.2
        go_wp2_with fail
        refine (HA2.out _ HN.out.bl).mono ?_
        rintro e w6 ⟨rfl, hb6⟩
        clear hwr hwr2
        have HN6 := Lib.hid (HN.out.below hb6)
        clear hb6 HN HTT
        have HN := HN6
        clear HN6
        have HTT := Lib.hid HN.out.bt
        go_upto_region 11 with (fail)
        clear kt0 kt1 kt2 kt3 kt4 kt5 kt6 kt7 kt8 kt9 kt10 kt11 kt12 kt13 kt14 HTT HWR hgt e1 e2
        as_aux_lemma =>
         -- w6: the world; 0: the row; a1, c1: where it lies; y.pa: the number; (dAt t i).pa: the list so far; 12: the next region; w7: the world behind
         have pB := HN.out.bw.cell (0 + 1)
         simp only [worldC, putR, List.getElem?_cons_zero, List.getElem?_cons_succ] at pB
         have HOW : Hid ((w6).ownsRow W2.heap.size 3 1 (.slice a1 i c1) i (((dAt t i).pa).map (.int .i64))) := Lib.hid (HN.out.own 0 (by decide))
         have HWN := Lib.hid (HOW.out.alloc (.cells #[.int .i64 y.pa] 3))
         have HNa := Lib.hid (HN.out.below (bl_a (Below.refl _ _) (.cells #[.int .i64 y.pa] 3)))
         have hzw : W2.heap.size ≤ (w6).heap.size := HN.out.hW
         have hzb : B < (w6).heap.size := HN.out.bw.lt
         go_wp2_with (at_builtin; refine wpList_append_lies _ rfl _ _ 23 rfl W2.heap.size 3 i0 (.int .i64 0) 1 8 Tryz.underlying23 hi hi1 hi2 hi3 rfl (by decide) _ i (((dAt t i).pa).map (.int .i64)) rfl HWN.out ⟨(w6).heap.size, 0, none⟩ 1 1 [.int .i64 y.pa] rfl rfl (int_newS _ _ _) (ow_one rfl) (by decide) (by unfold maxLen; omega) (by omega) (by simp; omega) _ rfl ?_; intro g1 k1 w3 hown3 hgrow3 hat3 hlt3; refine Hid.out ?_)
         refine Lib.hid ?_
         have HM3 := Lib.hid (HNa.out.mid (k := 0) (by decide) hgrow3)
         have HPUT := Lib.hid (HNa.out.put (k := 0) (by decide) hgrow3 (L := (dAt t i).pa ++ [y.pa]) (by rw [List.map_append]; exact hown3) (app_lie hat3))
         clear pB hown3 hgrow3 hat3 hzb HOW HWN HNa HN
         have q0 := HM3.out.2.2.cell (0 + 1)
         have q1 := HM3.out.2.2.fr (0 + 1)
         simp only [worldC, putR, List.getElem?_cons_zero, List.getElem?_cons_succ] at q0
         have hzb3 : B < w3.heap.size := HM3.out.2.2.lt
         go_upto_region 12 with (fail)
         generalize hWn : World.setCell w3 _ _ = w7
         have HN : Hid (NSt x t w W2 B w7 _ _) := Lib.hid (by rw [← hWn]; exact HPUT.out)
         clear hWn HPUT HM3 q0 q1 hzb3 hlt3 hzw
         -- w7: the world; 1: the row; a2, c2: where it lies; chv: the number; (dAt t i).ch: the list so far; 13: the next region; w8: the world behind
         have pB := HN.out.bw.cell (1 + 1)
         simp only [worldC, putR, List.getElem?_cons_zero, List.getElem?_cons_succ] at pB
         have HOW : Hid ((w7).ownsRow W2.heap.size 3 1 (.slice a2 i c2) i (((dAt t i).ch).map (.int .i64))) := Lib.hid (HN.out.own 1 (by decide))
         have HWN := Lib.hid (HOW.out.alloc (.cells #[.int .i64 chv] 3))
         have HNa := Lib.hid (HN.out.below (bl_a (Below.refl _ _) (.cells #[.int .i64 chv] 3)))
         have hzw : W2.heap.size ≤ (w7).heap.size := HN.out.hW
         have hzb : B < (w7).heap.size := HN.out.bw.lt
         go_wp2_with (at_builtin; refine wpList_append_lies _ rfl _ _ 23 rfl W2.heap.size 3 i0 (.int .i64 0) 1 8 Tryz.underlying23 hi hi1 hi2 hi3 rfl (by decide) _ i (((dAt t i).ch).map (.int .i64)) rfl HWN.out ⟨(w7).heap.size, 0, none⟩ 1 1 [.int .i64 chv] rfl rfl (int_newS _ _ _) (ow_one rfl) (by decide) (by unfold maxLen; omega) (by omega) (by simp; omega) _ rfl ?_; intro g2 k2 w3 hown3 hgrow3 hat3 hlt3; refine Hid.out ?_)
         refine Lib.hid ?_
         have HM3 := Lib.hid (HNa.out.mid (k := 1) (by decide) hgrow3)
         have HPUT := Lib.hid (HNa.out.put (k := 1) (by decide) hgrow3 (L := (dAt t i).ch ++ [chv]) (by rw [List.map_append]; exact hown3) (app_lie hat3))
         clear pB hown3 hgrow3 hat3 hzb HOW HWN HNa HN
         have q0 := HM3.out.2.2.cell (1 + 1)
         have q1 := HM3.out.2.2.fr (1 + 1)
         simp only [worldC, putR, List.getElem?_cons_zero, List.getElem?_cons_succ] at q0
         have hzb3 : B < w3.heap.size := HM3.out.2.2.lt
         go_upto_region 13 with (fail)
         generalize hWn : World.setCell w3 _ _ = w8
         have HN : Hid (NSt x t w W2 B w8 _ _) := Lib.hid (by rw [← hWn]; exact HPUT.out)
         clear hWn HPUT HM3 q0 q1 hzb3 hlt3 hzw
         -- w8: the world; 2: the row; a3, c3: where it lies; nxv: the number; (dAt t i).nx: the list so far; 14: the next region; w9: the world behind
         have pB := HN.out.bw.cell (2 + 1)
         simp only [worldC, putR, List.getElem?_cons_zero, List.getElem?_cons_succ] at pB
         have HOW : Hid ((w8).ownsRow W2.heap.size 3 1 (.slice a3 i c3) i (((dAt t i).nx).map (.int .i64))) := Lib.hid (HN.out.own 2 (by decide))
         have HWN := Lib.hid (HOW.out.alloc (.cells #[.int .i64 nxv] 3))
         have HNa := Lib.hid (HN.out.below (bl_a (Below.refl _ _) (.cells #[.int .i64 nxv] 3)))
         have hzw : W2.heap.size ≤ (w8).heap.size := HN.out.hW
         have hzb : B < (w8).heap.size := HN.out.bw.lt
         go_wp2_with (at_builtin; refine wpList_append_lies _ rfl _ _ 23 rfl W2.heap.size 3 i0 (.int .i64 0) 1 8 Tryz.underlying23 hi hi1 hi2 hi3 rfl (by decide) _ i (((dAt t i).nx).map (.int .i64)) rfl HWN.out ⟨(w8).heap.size, 0, none⟩ 1 1 [.int .i64 nxv] rfl rfl (int_newS _ _ _) (ow_one rfl) (by decide) (by unfold maxLen; omega) (by omega) (by simp; omega) _ rfl ?_; intro g3 k3 w3 hown3 hgrow3 hat3 hlt3; refine Hid.out ?_)
         refine Lib.hid ?_
         have HM3 := Lib.hid (HNa.out.mid (k := 2) (by decide) hgrow3)
         have HPUT := Lib.hid (HNa.out.put (k := 2) (by decide) hgrow3 (L := (dAt t i).nx ++ [nxv]) (by rw [List.map_append]; exact hown3) (app_lie hat3))
         clear pB hown3 hgrow3 hat3 hzb HOW HWN HNa HN
         have q0 := HM3.out.2.2.cell (2 + 1)
         have q1 := HM3.out.2.2.fr (2 + 1)
         simp only [worldC, putR, List.getElem?_cons_zero, List.getElem?_cons_succ] at q0
         have hzb3 : B < w3.heap.size := HM3.out.2.2.lt
         go_upto_region 14 with (fail)
         generalize hWn : World.setCell w3 _ _ = w9
         have HN : Hid (NSt x t w W2 B w9 _ _) := Lib.hid (by rw [← hWn]; exact HPUT.out)
         clear hWn HPUT HM3 q0 q1 hzb3 hlt3 hzw
         as_aux_lemma =>
          have HOW : Hid (w9.ownsRow W2.heap.size 3 1 (.slice a4 i c4) i ((dAt t i).fl.map (.int .i64))) := Lib.hid (HN.out.own 3 (by decide))
          have hzw : W2.heap.size ≤ w9.heap.size := HN.out.hW
          have HRD : Hid (∀ w' : World, (w9.heap.size ≤ w'.heap.size ∧ ∀ z, z < w9.heap.size → (Value.slice a4 i c4).ownBlock ≠ some z → w'.heap[z]? = w9.heap[z]?) →
              w'.cell? ⟨B, 4, none⟩ = some (.slice a4 i c4) ∧ w'.cell? ⟨w.heap.size, 8, none⟩ = some (.slice (some ⟨b, off, none⟩) t.th.length x.c8) ∧ w'.cell? ⟨b, off + i * 9 + 3, none⟩ = some (.int .i64 y.fl) ∧ b < w'.heap.size ∧ B < w'.heap.size) := Lib.hid (fun w' hS => by
           have hlo : ∀ z, z < W2.heap.size → (Value.slice a4 i c4).ownBlock ≠ some z := fun z hz e => by have := ow_lo HOW.out z e; omega
           have h1 := HN.out.hBF
           have h2 := HN.out.hB
           have h3 := HN.out.hW
           refine ⟨?_, ?_, ?_, by omega, by omega⟩
           · rw [World.cell?_of_block (a := ⟨B, 4, none⟩) (hS.2 B (by omega) (hlo B (by omega)))]; exact HN.out.bw.cell 4
           · rw [World.cell?_of_block (a := ⟨w.heap.size, 8, none⟩) (hS.2 w.heap.size (by omega) (hlo _ (by omega))), ← HX8.out]; exact HN.out.bt.cell 8
           · rw [World.cell?_of_block (a := ⟨b, off + i * 9 + 3, none⟩) (hS.2 b (by omega) (hlo b (by omega)))]; exact (HCE.out w9 HN.out.bl).2.1)
          have hiz : (0 : Int) ≤ (i : Int) := by omega
          have hit : (i : Int) < (t.th.length : Int) := by omega
          refine region_last (.rd 0 (.rd 1 (.rd 2 (.rd 3 (.rd 4 (.rd 5 (.rd 6 (.rd 7 (.one 8 (.one 9 (.one 10 .done))))))))))) (fun w' : World => w9.heap.size ≤ w'.heap.size ∧ ∀ z, z < w9.heap.size → (Value.slice a4 i c4).ownBlock ≠ some z → w'.heap[z]? = w9.heap[z]?) (by kernel_rfl) (by kernel_rfl) ⟨Nat.le_refl _, fun _ _ _ => rfl⟩ (fun KK hKK => ?_)
          intro OPS
          simp only [Ways.see, List.getElem?_cons_zero, List.getElem?_cons_succ]
          iterate 8
           (refine' inWays_read ?_ ?_ ?_ ?_
            rotate_left 2
            · rfl
            · (intro w' hS; obtain ⟨r0, r1, r2, r3, r4⟩ := HRD.out w' hS; go_simp; first | with_reducible rfl | skip)
            · (simp only [Act.put, List.setIfInBounds_toArray, List.set_cons_zero, List.set_cons_succ]; with_reducible rfl))
          refine' inWays_val ?_ ?_ ?_ ?_ ?_
          rotate_left 3
          · rfl
          · (go_simp; first | exact ⟨rfl, rfl⟩ | with_reducible rfl)
          · exact sk_alloc _
          · (simp only [Act.put, List.setIfInBounds_toArray, List.set_cons_zero, List.set_cons_succ]; with_reducible rfl)
          generalize hWa : World.drew (World.alloc w9 _) = Wa
          have HWN : Hid (Wa.ownsRow W2.heap.size 3 1 (.slice a4 i c4) i ((dAt t i).fl.map (.int .i64))) := Lib.hid (by rw [← hWa]; exact HOW.out.alloc _)
          have HNE : Hid (∀ j v, ([Value.int .i64 y.fl] : List Value)[j]? = some v → Wa.cell? ((⟨w9.heap.size, 0, none⟩ : Addr).add j) = some v) := Lib.hid (by rw [← hWa]; exact int_newS w9 y.fl 3)
          have HNa : Hid (NSt x t w W2 B Wa _ _) := Lib.hid (HN.out.below (w' := Wa) (by rw [← hWa]; exact (bl_a (Below.refl _ _) _).drew))
          have HSA : Hid (w9.heap.size ≤ Wa.heap.size ∧ ∀ z, z < w9.heap.size → (Value.slice a4 i c4).ownBlock ≠ some z → Wa.heap[z]? = w9.heap[z]?) := Lib.hid (by rw [← hWa]; exact sk_alloc _)
          clear hWa
          refine inWays_append rfl _ _ 23 rfl W2.heap.size 3 i0 (.int .i64 0) 1 8 Tryz.underlying23 hi hi1 hi2 hi3 rfl (by decide) _ i ((dAt t i).fl.map (.int .i64)) rfl HWN.out ⟨w9.heap.size, 0, none⟩ 1 1 [.int .i64 y.fl] rfl rfl HNE.out (ow_one rfl) (by decide) (by unfold maxLen; omega) (by omega) (Nat.le_trans hzw HSA.out.1) (fun g4 k4 w3 hown3 hgrow3 hat3 hlt3 => ⟨sk_then HSA.out hgrow3, ?_⟩)
          simp only [Act.put, List.setIfInBounds_toArray, List.set_cons_zero, List.set_cons_succ]
          refine' inWays_val ?_ ?_ ?_ ?_ ?_
          rotate_left 3
          · rfl
          · (go_simp; first | exact ⟨rfl, rfl⟩ | with_reducible rfl)
          · exact sk_then HSA.out hgrow3
          · (simp only [Act.put, List.setIfInBounds_toArray, List.set_cons_zero, List.set_cons_succ]; with_reducible rfl)
          refine inWays_nil (hKK.out _ _ ?_)
          have HM3 := Lib.hid (HNa.out.mid (k := 3) (by decide) hgrow3)
          have HPUT := Lib.hid (HNa.out.put (k := 3) (by decide) hgrow3 (L := (dAt t i).fl ++ [y.fl]) (by rw [List.map_append]; exact hown3) (app_lie hat3))
          clear hown3 hgrow3 hat3 HOW HWN HNE HNa HSA HRD HN hKK
          have q0 := HM3.out.2.2.cell 4
          have q1 := HM3.out.2.2.fr 4
          simp only [worldC, putR, List.getElem?_cons_zero, List.getElem?_cons_succ] at q0
          have hzb3 : B < w3.heap.size := HM3.out.2.2.lt
          simp only [List.length_cons, List.length_nil, Nat.zero_add, Nat.reduceAdd, Nat.reduceSub, List.drop_succ_cons, List.drop_zero]
          go_upto_region 15 with (fail)
          generalize hWn : World.setCell w3 _ _ = w10
          have HN : Hid (NSt x t w W2 B w10 _ _) := Lib.hid (by rw [← hWn]; exact HPUT.out)
          clear hWn HPUT HM3 q0 q1 hzb3 hlt3 hzw
          as_aux_lemma =>
           have HOW : Hid (w10.drew.ownsRow W2.heap.size 3 1 (.slice a5 l5 c5) l5 ((dAt t i).pr.map (.int .i64))) := Lib.hid (HN.out.own 4 (by decide))
           have hzw : W2.heap.size ≤ w10.heap.size := HN.out.hW
           obtain ⟨_, _, hzp, hzi⟩ := HCE.out w10 HN.out.bl
           have HRD : Hid (∀ w' : World, (w10.heap.size ≤ w'.heap.size ∧ ∀ z, z < w10.heap.size → (Value.slice a5 l5 c5).ownBlock ≠ some z → w'.heap[z]? = w10.heap[z]?) →
               w'.cell? ⟨B, 5, none⟩ = some (.slice a5 l5 c5) ∧ w'.cell? ⟨w.heap.size, 8, none⟩ = some (.slice (some ⟨b, off, none⟩) t.th.length x.c8) ∧ w'.cell? ⟨b, off + i * 9 + 5, none⟩ = some (.slice ra y.pr.length rc) ∧ b < w'.heap.size ∧ B < w'.heap.size) := Lib.hid (fun w' hS => by
            have hlo : ∀ z, z < W2.heap.size → (Value.slice a5 l5 c5).ownBlock ≠ some z := fun z hz e => by have := ow_lo HOW.out z e; omega
            have h1 := HN.out.hBF
            have h2 := HN.out.hB
            have h3 := HN.out.hW
            refine ⟨?_, ?_, ?_, by omega, by omega⟩
            · rw [World.cell?_of_block (a := ⟨B, 5, none⟩) (hS.2 B (by omega) (hlo B (by omega)))]; exact HN.out.bw.cell 5
            · rw [World.cell?_of_block (a := ⟨w.heap.size, 8, none⟩) (hS.2 w.heap.size (by omega) (hlo _ (by omega))), ← HX8.out]; exact HN.out.bt.cell 8
            · rw [World.cell?_of_block (a := ⟨b, off + i * 9 + 5, none⟩) (hS.2 b (by omega) (hlo b (by omega)))]; exact hzp)
           obtain ⟨v5, w3, hr5, hown3, hgrow3, hlie3⟩ := app_ints w10.drew W2.heap.size _ l5 _ HOW.out ra rc y.pr hzi (by have := HPy.out.2.2.2; omega) hzw 23
           have hlie4 : v5.ownBlock = (Value.slice a5 l5 c5).ownBlock ∨ ∀ b, v5.ownBlock = some b → w10.drew.heap.size ≤ b := by
            rcases hlie3 with h | h
            · exact .inl h
            · exact .inr (fun b hb => by rw [h] at hb; exact Nat.le_of_eq (Option.some.inj hb))
           obtain ⟨a6, c6, rfl⟩ := ow_shape hown3
           have HNd : Hid (NSt x t w W2 B w10.drew _ _) := Lib.hid (HN.out.below ((Below.refl _ _).drew))
           have HSK : Hid (w10.heap.size ≤ w3.heap.size ∧ ∀ z, z < w10.heap.size → (Value.slice a5 l5 c5).ownBlock ≠ some z → w3.heap[z]? = w10.heap[z]?) := Lib.hid ⟨hgrow3.size, fun z hz hr => hgrow3.block z hz (fun e => hr e.symm)⟩
           have HM3 := Lib.hid (HNd.out.mid (k := 4) (by decide) hgrow3)
           have HPUT := Lib.hid (HNd.out.put (k := 4) (by decide) hgrow3 (L := (dAt t i).pr ++ y.pr) (by rw [List.map_append]; exact hown3) hlie4)
           have HRUN := Lib.hid hr5
           clear hown3 hgrow3 hlie3 hlie4 hr5 HOW HNd HN hzi hzp
           have hiz : (0 : Int) ≤ (i : Int) := by omega
           have hit : (i : Int) < (t.th.length : Int) := by omega
           refine region_last (.rd 0 (.rd 1 (.rd 2 (.rd 3 (.rd 4 (.rd 5 (.rd 6 (.rd 7 (.one 8 (.one 9 .done)))))))))) (fun w' : World => w10.heap.size ≤ w'.heap.size ∧ ∀ z, z < w10.heap.size → (Value.slice a5 l5 c5).ownBlock ≠ some z → w'.heap[z]? = w10.heap[z]?) (by kernel_rfl) (by kernel_rfl) ⟨Nat.le_refl _, fun _ _ _ => rfl⟩ (fun KK hKK => ?_)
           intro OPS
           simp only [Ways.see, List.getElem?_cons_zero, List.getElem?_cons_succ]
           iterate 8
            (refine' inWays_read ?_ ?_ ?_ ?_
             rotate_left 2
             · rfl
             · (intro w' hS; obtain ⟨r0, r1, r2, r3, r4⟩ := HRD.out w' hS; go_simp; first | with_reducible rfl | skip)
             · (simp only [Act.put, List.setIfInBounds_toArray, List.set_cons_zero, List.set_cons_succ]; with_reducible rfl))
           refine inWays_val rfl (run_app (.tmp 75) (.tmp 81) 23 rfl rfl rfl HRUN.out) HSK.out rfl ?_
           simp only [Act.put, List.setIfInBounds_toArray, List.set_cons_zero, List.set_cons_succ]
           refine' inWays_val ?_ ?_ ?_ ?_ ?_
           rotate_left 3
           · rfl
           · (go_simp; first | exact ⟨rfl, rfl⟩ | with_reducible rfl)
           · exact HSK.out
           · (simp only [Act.put, List.setIfInBounds_toArray, List.set_cons_zero, List.set_cons_succ]; with_reducible rfl)
           refine inWays_nil (hKK.out _ _ ?_)
           clear hKK HRD HRUN HSK
           have q0 := HM3.out.2.2.cell 5
           have q1 := HM3.out.2.2.fr 5
           simp only [worldC, putR, List.getElem?_cons_zero, List.getElem?_cons_succ] at q0
           have hzb3 : B < w3.heap.size := HM3.out.2.2.lt
           have hpl := HPy.out.2.2.2
           have HFIN : Hid (NSt x t w W2 B (w3.setCell ⟨B, 5, none⟩ (.slice a6 (l5 + y.pr.length) c6)) _ (dAt t (i + 1))) := Lib.hid (by rw [HDA.out]; exact HPUT.out)
           clear HPUT HM3
           simp only [List.length_cons, List.length_nil, Nat.zero_add, Nat.reduceAdd, Nat.reduceSub, List.drop_succ_cons, List.drop_zero]
           go_wp2_with fail
           go_roundw
           case rel => exact ⟨i + 1, l5 + y.pr.length, _, _, _, _, _, _, _, _, _, _, by go_num, by omega, by omega, HFIN⟩
           case measure => simp [intOf]; omega
  · obtain rfl : i = t.th.length := by omega
    have b0 := HN.out.bw.cell 0
    have b1 := HN.out.bw.cell 1
    have b2 := HN.out.bw.cell 2
    have b3 := HN.out.bw.cell 3
    have b4 := HN.out.bw.cell 4
    have b5 := HN.out.bw.cell 5
    have b6 := HN.out.bw.cell 6
    have b7 := HN.out.bw.cell 7
    have b8 := HN.out.bw.cell 8
    have b9 := HN.out.bw.cell 9
    have b10 := HN.out.bw.cell 10
    have b11 := HN.out.bw.cell 11
    have b12 := HN.out.bw.cell 12
    have r0 := HN.out.br.cell 0
    have r1 := HN.out.br.cell 1
    have r2 := HN.out.br.cell 2
    have r3 := HN.out.br.cell 3
    have r4 := HN.out.br.cell 4
    have r5 := HN.out.br.cell 5
    have r6 := HN.out.br.cell 6
    have r7 := HN.out.br.cell 7
    have r8 := HN.out.br.cell 8
    have r9 := HN.out.br.cell 9
    have r10 := HN.out.br.cell 10
    have r11 := HN.out.br.cell 11
    have r12 := HN.out.br.cell 12
    have f0 := HN.out.br.fr 0
    have f1 := HN.out.br.fr 1
    have f2 := HN.out.br.fr 2
    have f3 := HN.out.br.fr 3
    have f4 := HN.out.br.fr 4
    have f5 := HN.out.br.fr 5
    have f6 := HN.out.br.fr 6
    have f7 := HN.out.br.fr 7
    have f8 := HN.out.br.fr 8
    have f9 := HN.out.br.fr 9
    have f10 := HN.out.br.fr 10
    have f11 := HN.out.br.fr 11
    have f12 := HN.out.br.fr 12
    simp only [worldC, zeroW, List.getElem?_cons_zero, List.getElem?_cons_succ] at b0 b1 b2 b3 b4 b5 b6 b7 b8 b9 b10 b11 b12 r0 r1 r2 r3 r4 r5 r6 r7 r8 r9 r10 r11 r12
    have hzB : B < wr.heap.size := HN.out.bw.lt
    have hzr : w.heap.size + 1 < wr.heap.size := HN.out.br.lt
    have kt8 := HN.out.bt.cell 8
    simp only [tabC, List.getElem?_cons_zero, List.getElem?_cons_succ] at kt8
    have hzs : w.heap.size < wr.heap.size := HN.out.bt.lt
    have hzne : ¬ (w.heap.size + 1 = B) := by have := HN.out.hB; omega
    go_wp2_with fail
    generalize hWf : World.setCell _ ⟨w.heap.size + 1, 12, none⟩ _ = Wf
    have HGR : Hid (wr.grownBy Wf (some (w.heap.size + 1))) := Lib.hid (by
     rw [← hWf]
     exact (gr_trans (gr_trans (gr_trans (gr_trans (gr_trans (gr_trans (gr_trans (gr_trans (gr_trans (gr_trans (gr_trans (gr_trans (gr_set wr (w.heap.size + 1) 0 _) (gr_set _ (w.heap.size + 1) 1 _)) (gr_set _ (w.heap.size + 1) 2 _)) (gr_set _ (w.heap.size + 1) 3 _)) (gr_set _ (w.heap.size + 1) 4 _)) (gr_set _ (w.heap.size + 1) 5 _)) (gr_set _ (w.heap.size + 1) 6 _)) (gr_set _ (w.heap.size + 1) 7 _)) (gr_set _ (w.heap.size + 1) 8 _)) (gr_set _ (w.heap.size + 1) 9 _)) (gr_set _ (w.heap.size + 1) 10 _)) (gr_set _ (w.heap.size + 1) 11 _)) (gr_set _ (w.heap.size + 1) 12 _)))
    have HRW : Hid (BK Wf (w.heap.size + 1) (worldC ⟨ga', a1, a2, a3, a4, a5, some ⟨g7', 0, none⟩, t.gl.length, t.th.length, t.th.length, t.th.length, t.th.length, l5, t.da.length, gc', c1, c2, c3, c4, c5, t.da.length, z', 0, 0, 0, 0, 0⟩) 31) := Lib.hid (by
     rw [← hWf]
     have hBR := HN.out.br
     have := (((((((((((((hBR.set 0 (.slice ga' t.gl.length gc')).set 1 (.slice a1 t.th.length c1)).set 2 (.slice a2 t.th.length c2)).set 3 (.slice a3 t.th.length c3)).set 4 (.slice a4 t.th.length c4)).set 5 (.slice a5 l5 c5)).set 6 (.slice (some ⟨g7', 0, none⟩) t.da.length t.da.length)).set 7 (.int .u64 z')).set 8 (.int .i64 0)).set 9 (.int .i64 0)).set 10 (.int .i64 0)).set 11 (.int .i64 0)).set 12 (.int .i64 0))
     simp only [zeroW, List.set_cons_zero, List.set_cons_succ] at this
     exact this)
    clear hWf b0 b1 b2 b3 b4 b5 b6 b7 b8 b9 b10 b11 b12 r0 r1 r2 r3 r4 r5 r6 r7 r8 r9 r10 r11 r12 f0 f1 f2 f3 f4 f5 f6 f7 f8 f9 f10 f11 f12 kt8
    have HWD : Hid (WRd Wf ⟨ga', a1, a2, a3, a4, a5, some ⟨g7', 0, none⟩, t.gl.length, t.th.length, t.th.length, t.th.length, t.th.length, l5, t.da.length, gc', c1, c2, c3, c4, c5, t.da.length, z', 0, 0, 0, 0, 0⟩ (newD t)) := Lib.hid (new_reads HN.out HGR.out hn HPW.out hl5)
    have HFA : Hid (WFar w.heap.size ⟨ga', a1, a2, a3, a4, a5, some ⟨g7', 0, none⟩, t.gl.length, t.th.length, t.th.length, t.th.length, t.th.length, l5, t.da.length, gc', c1, c2, c3, c4, c5, t.da.length, z', 0, 0, 0, 0, 0⟩ (newD t)) := Lib.hid (new_far HN.out)
    have HBF : Hid (Below w.heap.size w Wf) := Lib.hid (bl_g HN.out.bl HGR.out (fun k hk => by have := Option.some.inj hk; omega))
    have v0 := HRW.out.cell 0
    have v1 := HRW.out.cell 1
    have v2 := HRW.out.cell 2
    have v3 := HRW.out.cell 3
    have v4 := HRW.out.cell 4
    have v5 := HRW.out.cell 5
    have v6 := HRW.out.cell 6
    have v7 := HRW.out.cell 7
    have v8 := HRW.out.cell 8
    have v9 := HRW.out.cell 9
    have v10 := HRW.out.cell 10
    have v11 := HRW.out.cell 11
    have v12 := HRW.out.cell 12
    simp only [worldC, List.getElem?_cons_zero, List.getElem?_cons_succ] at v0 v1 v2 v3 v4 v5 v6 v7 v8 v9 v10 v11 v12
    refine bodyPost_ret (v := worldV ⟨ga', a1, a2, a3, a4, a5, some ⟨g7', 0, none⟩, t.gl.length, t.th.length, t.th.length, t.th.length, t.th.length, l5, t.da.length, gc', c1, c2, c3, c4, c5, t.da.length, z', 0, 0, 0, 0, 0⟩) ?_ rfl ⟨_, rfl, HWD.out, HBF.out, HFA.out⟩
    simp [results, Tryz.results58, go_sem, v0, v1, v2, v3, v4, v5, v6, v7, v8, v9, v10, v11, v12, worldV, worldC]
end Go.Proofs.YtjggklfegcejhaaGreat
namespace Go.Proofs.YtjggklfegcejhaaGreat
open Go.RowKit Go.PlainAid
set_option linter.unusedVariables false
set_option linter.unusedSimpArgs false

theorem wordOk_key {l : List UInt8} (h : WordOk l) : keyW l = l := by
 unfold keyW
 have e : l.map lowU = l := by
  have h1 : l.map lowU = l.map id := List.map_congr_left (fun c hc => lowU_other (h.2.2.2 c hc).2)
  rw [h1, List.map_id]
 rw [e, List.take_of_length_le h.2.1]
/-- A text whose first letter is great. -/
def capL : List UInt8 → List UInt8
 | [] => []
 | c :: t => if smallB (c.toNat : Int) = true then (c - 32) :: t else c :: t
theorem capL_cons (c : UInt8) (t : List UInt8) : capL (c :: t) = if smallB (c.toNat : Int) = true then (c - 32) :: t else c :: t := rfl
theorem cap_sub {c : UInt8} (h : smallB (c.toNat : Int) = true) : (c - 32).toNat = c.toNat - 32 := by
 simp only [smallB, decide_eq_true_eq] at h
 rw [UInt8.toNat_sub_of_le]
 · rfl
 · rw [UInt8.le_iff_toNat_le]; show 32 ≤ c.toNat; omega
theorem cap_low {c : UInt8} (h : smallB (c.toNat : Int) = true) : lowU (c - 32) = c := by
 have e := cap_sub h
 simp only [smallB, decide_eq_true_eq] at h
 have hg : greatB ((c - 32).toNat : Int) = true := by
  simp only [greatB, decide_eq_true_eq]; rw [e]; omega
 apply UInt8.toNat_inj.1
 have h1 := lowU_great hg
 rw [e] at h1; omega
theorem cap_key {l : List UInt8} (h : WordOk l) : keyW (capL l) = l := by
 have h1 := wordOk_key h
 cases l with
 | nil => exact h1
 | cons c t =>
   rw [capL_cons]
   by_cases hs : smallB (c.toNat : Int) = true
   · rw [if_pos hs]
     have e : keyW ((c - 32) :: t) = keyW (c :: t) := by
      unfold keyW
      rw [List.map_cons, List.map_cons, cap_low hs, lowU_other (h.2.2.2 c (List.mem_cons_self ..)).2]
     rw [e, h1]
   · rw [if_neg hs]; exact h1
theorem capL_len (l : List UInt8) : (capL l).length = l.length := by
 cases l with
 | nil => rfl
 | cons c t => rw [capL_cons]; split <;> rfl
theorem cap_nil (s : ByteArray) (h : s.size = 0) : mkY (capL s.data.toList) = s := by
 have hl : s.data.toList = [] := List.length_eq_zero_iff.1 (by simpa using h)
 rw [hl]
 show mkY [] = s
 have : s.data = #[] := by simpa using hl
 unfold mkY
 cases s; simp_all
theorem cap_same (s : ByteArray) (h : 0 < s.size) (hs : smallB ((s[0]).toNat : Int) = false) : mkY (capL s.data.toList) = s := by
 have hd : s.data.toList = s[0] :: s.data.toList.drop 1 := by
  have := head_at s h
  cases hl : s.data.toList with
  | nil => rw [hl] at this; simp at this
  | cons c t => rw [hl] at this; simp at this; simp [this]
 have e : capL s.data.toList = s.data.toList := by
  rw [hd, capL_cons, if_neg (by rw [hs]; simp)]
 unfold mkY
 rw [e]
theorem cap_set (s : ByteArray) (h : 0 < s.size) (hs : smallB ((s[0]).toNat : Int) = true) : capL s.data.toList = s.data.toList.set 0 (s[0] - 32) := by
 have hd : s.data.toList = s[0] :: s.data.toList.drop 1 := by
  have := head_at s h
  cases hl : s.data.toList with
  | nil => rw [hl] at this; simp at this
  | cons c t => rw [hl] at this; simp at this; simp [this]
 rw [hd, capL_cons, if_pos hs]; rfl
end Go.Proofs.YtjggklfegcejhaaGreat
namespace Go.Proofs.YtjggklfegcejhaaGreat
open Go.RowKit Go.PlainAid Go.Deep
set_option linter.unusedVariables false
set_option linter.unusedSimpArgs false

/-! ### The room with two lamps -/
def rth (pa fl : Int) (rm : Bool) (wd ad : List TxC) : ThC := ⟨0, -1, pa, fl, rm, [], wd, ad, []⟩
def meW : TxC := [109, 101]
def lampW : TxC := [108, 97, 109, 112]
def brassW : TxC := [98, 114, 97, 115, 115]
def redW : TxC := [114, 101, 100]
def roomT : TbC := ⟨0, 0, 0, 0, [[120]], 4, [], [], [rth 0 0 false [] [], rth 2 0 false [meW] [], rth 0 1 true [] [], rth 2 0 false [lampW] [brassW], rth 2 0 false [lampW] [redW]], [], [], [], [], [], []⟩
def roomX (k : Nat) : TAd := ⟨some ⟨k, 0, none⟩, none, none, some ⟨k + 6, 0, none⟩, none, none, none, none, none, none, 1, 0, 0, 5, 0, 0, 0, 0, 0, 0⟩
def oneV (k : Nat) : Value := .slice (some ⟨k, 0, none⟩) 1 1
def roomR (k : Nat) : List (List Value) := [thRow (rth 0 0 false [] []) nilV nilV nilV nilV, thRow (rth 2 0 false [meW] []) nilV (oneV (k + 1)) nilV nilV, thRow (rth 0 1 true [] []) nilV nilV nilV nilV, thRow (rth 2 0 false [lampW] [brassW]) nilV (oneV (k + 2)) (oneV (k + 3)) nilV, thRow (rth 2 0 false [lampW] [redW]) nilV (oneV (k + 4)) (oneV (k + 5)) nilV]
theorem reads_nilR {α : Type} {c : Cd α} (w : World) : Reads c.sq w nilV [] := ⟨⟨_, [], rfl, ⟨SLN.nil _ _ _ _, none, 0, rfl, Nat.le_refl _⟩, rfl, fun i h => by cases h⟩, Nat.zero_le _⟩
theorem reads_oneS {w : World} {k : Nat} {s : TxC} (h : BK w k [.string ⟨s.toArray⟩] 9) (hs : s.length ≤ 1000) : Reads Cd.ss w (oneV k) [s] := by
 refine ⟨⟨_, [[.string ⟨s.toArray⟩]], rfl, ⟨⟨by show 1 ≤ maxLen; decide, (by intro r hr; simp at hr; subst hr; rfl), .inr ⟨k, 0, 1, rfl, h.lt, fun i j hi hj => ?_⟩⟩, some ⟨k, 0, none⟩, 1, rfl, Nat.le_refl _⟩, rfl, fun i a b => ?_⟩, by show 1 ≤ reachBytes; decide⟩
 · have hi0 : i = 0 := by simpa using hi
   have hj0 : j = 0 := by have : j < 1 := hj; omega
   subst hi0; subst hj0
   exact h.cell 0
 · have hi0 : i = 0 := by simpa using a
   subst hi0
   exact ⟨rfl, by show s.length ≤ maxLen; unfold maxLen; omega⟩
theorem room_is {w : World} {k : Nat} (h0 : BK w k [.string ⟨#[120]⟩] 9) (h1 : BK w (k + 1) [.string ⟨#[109, 101]⟩] 9) (h2 : BK w (k + 2) [.string ⟨#[108, 97, 109, 112]⟩] 9) (h3 : BK w (k + 3) [.string ⟨#[98, 114, 97, 115, 115]⟩] 9)
    (h4 : BK w (k + 4) [.string ⟨#[108, 97, 109, 112]⟩] 9) (h5 : BK w (k + 5) [.string ⟨#[114, 101, 100]⟩] 9) (h6 : BK w (k + 6) (roomR k).flatten 64) : TabIs w (roomX k) roomT := by
 refine ⟨reads_oneS (s := [120]) h0 (by decide), reads_nilR w, reads_nilR w, ?_, reads_nilR w, reads_nilR w, reads_nilR w, reads_nilR w, reads_nilR w, reads_nilR w, rfl, rfl, rfl, rfl, rfl⟩
 refine ⟨⟨_, roomR k, rfl, ⟨⟨by show 5 ≤ maxLen; decide, (by intro r hr; simp [roomR] at hr; rcases hr with rfl | rfl | rfl | rfl | rfl <;> rfl), .inr ⟨k + 6, 0, 5, rfl, h6.lt, fun i j hi hj => ?_⟩⟩, some ⟨k + 6, 0, none⟩, 5, rfl, by show 5 ≤ 5; decide⟩, rfl, fun i a b => ?_⟩, by show 5 ≤ reachBytes; decide⟩
 · have hi5 : i < 5 := by simpa [roomR] using hi
   have hj9 : j < 9 := hj
   show w.cell? ⟨k + 6, 0 + i * 9 + j, none⟩ = _
   rw [h6.cell, Nat.zero_add]
   match i, hi5 with
   | 0, _ | 1, _ | 2, _ | 3, _ | 4, _ => match j, hj9 with
     | 0, _ | 1, _ | 2, _ | 3, _ | 4, _ | 5, _ | 6, _ | 7, _ | 8, _ => rfl
 · have hi5 : i < 5 := by simpa [roomR] using a
   match i, hi5 with
   | 0, _ => exact ⟨_, _, _, _, rfl, reads_nilR w, reads_nilR w, reads_nilR w, reads_nilR w, rfl, rfl, rfl, rfl⟩
   | 1, _ => exact ⟨_, _, _, _, rfl, reads_nilR w, reads_oneS (s := meW) h1 (by decide), reads_nilR w, reads_nilR w, rfl, rfl, rfl, rfl⟩
   | 2, _ => exact ⟨_, _, _, _, rfl, reads_nilR w, reads_nilR w, reads_nilR w, reads_nilR w, rfl, rfl, rfl, rfl⟩
   | 3, _ => exact ⟨_, _, _, _, rfl, reads_nilR w, reads_oneS (s := lampW) h2 (by decide), reads_oneS (s := brassW) h3 (by decide), reads_nilR w, rfl, rfl, rfl, rfl⟩
   | 4, _ => exact ⟨_, _, _, _, rfl, reads_nilR w, reads_oneS (s := lampW) h4 (by decide), reads_oneS (s := redW) h5 (by decide), reads_nilR w, rfl, rfl, rfl, rfl⟩
theorem room_nest : NestW (newD roomT).pa (newD roomT).ch (newD roomT).nx 5 := by
 refine NestedP.nest ⟨fun x hx => ?_⟩
 unfold isW at hx
 have h := of_decide_eq_true hx
 obtain rfl | rfl | rfl | rfl : x = 1 ∨ x = 2 ∨ x = 3 ∨ x = 4 := by omega
 all_goals decide
theorem room_dup : ∀ x, (kidsW (newD roomT).ch (newD roomT).nx 5 x).Nodup := fun x => by
 by_cases hx : isW 5 x = true
 · unfold isW at hx
   have h := of_decide_eq_true hx
   obtain rfl | rfl | rfl | rfl : x = 1 ∨ x = 2 ∨ x = 3 ∨ x = 4 := by omega
   all_goals decide
 · unfold kidsW; rw [if_neg hx]; exact List.nodup_nil
theorem reads_ln {w : World} {a : Option Addr} {l c : Nat} {L : List Int} (h : Reads Cd.is w (.slice a l c) L) : l = L.length := by
 obtain ⟨a', c', e, _⟩ := h.q.len
 simp only [Value.slice.injEq] at e
 exact e.2.1
theorem room_ok {w : World} {q : Wv} (h : WRd w q (newD roomT)) : WOk w q (newD roomT) 5 where
 is := h.is
 len := ⟨reads_ln h.pa, reads_ln h.ch, reads_ln h.nx, by decide⟩
 l4 := reads_ln h.fl
 pos := by decide
 few := by decide
 fl := by decide
 nest := room_nest
theorem room_reach (y : Int) : (reachV (newD roomT) 5 y).length ≤ 1000000 := by
 unfold reachV
 exact Nat.le_trans (reach_len room_nest (by decide) room_dup _ _ _ _) (by decide)
/-- In a world that may be the trees are not too long. -/
theorem reach_few {t : TbC} {q : Wv} {d : WdC} {w : World} (h : RightOk t q d) (hw : WOk w q d t.th.length) (y : Int) : (reachV d t.th.length y).length ≤ 1000000 := by
 unfold reachV
 exact Nat.le_trans (reach_len hw.nest hw.pos (by have := h.nest.dup; rwa [h.h1] at this) _ _ _ _) (Nat.le_trans hw.few (by decide))
/-- What is asked of tables, a world, words. -/
structure MayOk (t : TbC) (q : Wv) (d : WdC) (ws : List TxC) : Prop where
 few : ws.length ≤ 20
 fit : FitsOk t
 rt : RightOk t q d
 wl : ∀ s ∈ ws, s.length ≤ 40
set_option maxRecDepth 100000 in
set_option maxHeartbeats 8000000 in
theorem mayC (x : TAd) (t : TbC) (q : Wv) (d : WdC) (a : Option Addr) (ws : List TxC) (c : Nat) (w : World) (ht : TabIs w x t) (hw : WRd w q d) (hws : Wds w a ws) :
    Calls Tryz.prog 6 #[tabV x t, worldV q, .slice a ws.length c] w (OneW (MayOk t q d ws) w) := by
 have hnew := Two.new x t q w
 obtain ⟨W0, hW0⟩ : ∃ W0, (w.alloc (.cells (tabC x t).toArray 28)).alloc (.cells (worldC q).toArray 31) = W0 := ⟨_, rfl⟩
 rw [hW0] at hnew
 have HFI := Lib.hid (fun w' (hb : Below w.heap.size w w') => refFits x t w' (ht.below hb))
 have HRI := Lib.hid (fun w' (hb : Below w.heap.size w w') (hf : FitsOk t) => refRight x t q d w' (ht.below hb) (hw.below hb) hf)
 have HWD := Lib.hid (fun w' (hb : Below w.heap.size w w') => hws.below hb)
 have HM := Lib.hid (fun (h1 : ws.length ≤ 20) (h2 : FitsOk t) (h3 : RightOk t q d) (h4 : ∀ s ∈ ws, s.length ≤ 40) => MayOk.mk h1 h2 h3 h4)
 generalize MayOk t q d ws = MO at *
 obtain ⟨m, hm⟩ : ∃ m, ws.length = m := ⟨_, rfl⟩
 have HWM := Lib.hid hm
 rw [hm]
 clear ht hw hws hm
 have HTW := Lib.hid (hnew)
 have HTWt := Lib.hid HTW.out.bt
 have HTWw := Lib.hid HTW.out.bw
 obtain ⟨kt0, kt1, kt2, kt3, kt4, kt5, kt6, kt7, kt8, kt9, kt10, kt11, kt12, kt13, kt14⟩ := tab15 (HTWt.out)
 obtain ⟨b0, b1, b2, b3, b4, b5, b6, b7, b8, b9, bA, bB, bC⟩ := wd13 (HTWw.out)
 clear hnew
 unfold tabV worldV at *
 go_enter Tryz.func6, Tryz.ntmps6
 unfold worldC at HRI hW0 ⊢
 unfold tabC at HFI HRI hW0 ⊢
 by_cases hm20 : 20 < m
 · have hm20i : (20 : Int) < (m : Int) := by omega
   go_wp2_with fail
   clear hW0
   go_ret
   exact ⟨false, rfl, fun h => Bool.noConfusion h, HTW.out.bl⟩
 · have hm20i : ¬ ((20 : Int) < (m : Int)) := by omega
   go_wp2_with fail
   clear hW0
   refine (HFI.out _ HTW.out.bl).mono ?_
   rintro e w1 ⟨bf, rfl, hbf, hb1⟩
   have HBF := Lib.hid hbf
   have hnew := HTW.out.below hb1
   clear kt0 kt1 kt2 kt3 kt4 kt5 kt6 kt7 kt8 kt9 kt10 kt11 kt12 kt13 kt14
   clear b0 b1 b2 b3 b4 b5 b6 b7 b8 b9 bA bB bC
   clear HTWt HTWw
   clear HTW
   have HTW := Lib.hid (hnew)
   have HTWt := Lib.hid HTW.out.bt
   have HTWw := Lib.hid HTW.out.bw
   obtain ⟨kt0, kt1, kt2, kt3, kt4, kt5, kt6, kt7, kt8, kt9, kt10, kt11, kt12, kt13, kt14⟩ := tab15 (HTWt.out)
   obtain ⟨b0, b1, b2, b3, b4, b5, b6, b7, b8, b9, bA, bB, bC⟩ := wd13 (HTWw.out)
   clear hnew
   clear hbf hb1
   cases bf with
   | false =>
     go_wp2_with fail
     go_ret
     exact ⟨false, rfl, fun h => Bool.noConfusion h, HTW.out.bl⟩
   | true =>
     have HF := Lib.hid (HBF.out rfl)
     go_wp2_with fail
     refine (HRI.out _ HTW.out.bl HF.out).mono ?_
     rintro e w2 ⟨br, rfl, hbr, hb2⟩
     have HBR := Lib.hid hbr
     have hnew := HTW.out.below hb2
     clear kt0 kt1 kt2 kt3 kt4 kt5 kt6 kt7 kt8 kt9 kt10 kt11 kt12 kt13 kt14
     clear b0 b1 b2 b3 b4 b5 b6 b7 b8 b9 bA bB bC
     clear HTWt HTWw
     clear HTW
     have HTW := Lib.hid (hnew)
     have HTWt := Lib.hid HTW.out.bt
     have HTWw := Lib.hid HTW.out.bw
     obtain ⟨kt0, kt1, kt2, kt3, kt4, kt5, kt6, kt7, kt8, kt9, kt10, kt11, kt12, kt13, kt14⟩ := tab15 (HTWt.out)
     obtain ⟨b0, b1, b2, b3, b4, b5, b6, b7, b8, b9, bA, bB, bC⟩ := wd13 (HTWw.out)
     clear hnew
     clear hbr hb2
     cases br with
     | false =>
       go_wp2_with fail
       go_ret
       exact ⟨false, rfl, fun h => Bool.noConfusion h, HTW.out.bl⟩
     | true =>
       have HR := Lib.hid (HBR.out rfl)
       have HB2 := Lib.hid HTW.out.bl
       clear kt0 kt1 kt2 kt3 kt4 kt5 kt6 kt7 kt8 kt9 kt10 kt11 kt12 kt13 kt14
       clear b0 b1 b2 b3 b4 b5 b6 b7 b8 b9 bA bB bC
       clear HTWt HTWw
       clear HTW HRI HFI HBF HBR
       go_wp2_with fail
       go_loop [7] (fun iv => ∃ i : Nat, iv = .int .i64 i ∧ i ≤ m ∧ Hid (∀ j (h : j < ws.length), j < i → (ws[j]).length ≤ 40)) (fun iv => m - (intOf iv).toNat)
       case atStart => exact ⟨0, rfl, Nat.zero_le _, Lib.hid (fun j _ h => by omega)⟩
       case round =>
        obtain ⟨i, rfl, hi, HI⟩ := hrel
        by_cases hlt : i < m
        · have hil : i < ws.length := by rw [HWM.out]; exact hlt
          obtain ⟨b, o, rfl, hb, hcs⟩ := (HWD.out _ HB2.out).2 (by omega)
          have hci := hcs i hil
          have HX : Hid (∀ s, ws[i] = s → s.length ≤ 40 → ∀ j (h : j < ws.length), j < i + 1 → (ws[j]).length ≤ 40) := Lib.hid (fun s e hs j hj hji => by
           by_cases e2 : j = i
           · subst e2; rw [e]; exact hs
           · exact HI.out j hj (by omega))
          obtain ⟨s, hs⟩ : ∃ s, ws[i] = s := ⟨_, rfl⟩
          rw [hs] at hci
          have HS := Lib.hid (HX.out s hs)
          clear hcs hs HX
          by_cases h40 : 40 < s.length
          · have h40i : (40 : Int) < (s.length : Int) := by omega
            go_wp2_with fail
            go_ret
            exact ⟨false, rfl, fun h => Bool.noConfusion h, HB2.out⟩
          · have HI2 := Lib.hid (HS.out (by omega))
            have h40i : ¬ ((40 : Int) < (s.length : Int)) := by omega
            go_wp2_with fail
            go_round
            case rel => exact ⟨i + 1, by go_num, by omega, HI2⟩
            case measure => simp [intOf]; omega
        · have HMO := Lib.hid (HM.out (by rw [HWM.out]; omega) HF.out HR.out (fun s hs => by
            obtain ⟨j, hj, rfl⟩ := List.getElem_of_mem hs
            exact HI.out j hj (by rw [HWM.out] at hj; omega)))
          go_wp2_with fail
          go_ret
          exact ⟨true, rfl, fun _ => HMO.out, HB2.out⟩
end Go.Proofs.YtjggklfegcejhaaGreat
namespace Go.Proofs.YtjggklfegcejhaaGreat
open Go.RowKit Go.PlainAid Go.Deep
set_option linter.unusedVariables false
set_option linter.unusedSimpArgs false

theorem bl_thenR {w W w' : World} (h : Below w.heap.size w W) (g : Below W.heap.size W w') : Below w.heap.size w w' := bl_then h g
theorem bl_sK {w x : World} {k : Nat} (h : Below w.heap.size w x) (o : Nat) (u : Value) (hk : w.heap.size ≤ k) : Below w.heap.size w (x.setCell ⟨k, o, none⟩ u) := h.setCell hk u
theorem bk_row {w : World} {g : Nat} {old cs : List Value} {T : TypeId} (h : BK w g old T) : BK (w.setRow g cs.toArray) g cs T := by
 unfold BK at *
 simp only [World.setRow, Array.getElem?_modify, h]
 simp
theorem bk_rowO {w : World} {g k : Nat} {cs : List Value} {xs : Array Value} {T : TypeId} (h : BK w k cs T) (hne : g ≠ k) : BK (w.setRow g xs) k cs T := by
 unfold BK at *
 simp only [World.setRow, Array.getElem?_modify, if_neg hne]
 exact h
theorem but_row {n0 g : Nat} {S : List Nat} {X Y : World} (h : But n0 S X Y) (hk : g ∈ S) (xs : Array Value) : But n0 S X (Y.setRow g xs) :=
 ⟨Nat.le_trans h.size (by simp [World.setRow]), fun b hb hn => by
  have hne : g ≠ b := fun e => hn (by subst e; exact hk)
  simp only [World.setRow, Array.getElem?_modify, if_neg hne]
  exact h.blk b hb hn⟩
theorem bl_row {B g : Nat} {w x : World} (h : Below B w x) (hk : B ≤ g) (xs : Array Value) : Below B w (x.setRow g xs) :=
 ⟨h.os, h.tape, h.output, Nat.le_trans h.size (by simp [World.setRow]), fun b hb => by
  have hne : g ≠ b := by omega
  simp only [World.setRow, Array.getElem?_modify, if_neg hne]
  exact h.block b hb⟩
theorem far_le {B C : Nat} {q : Wv} {d : WdC} (h : WFar C q d) (hb : B ≤ C) : WFar B q d :=
 ⟨fun b o e h0 => Nat.le_trans hb (h.f0 b o e h0), fun b o e h0 => Nat.le_trans hb (h.f1 b o e h0), fun b o e h0 => Nat.le_trans hb (h.f2 b o e h0), fun b o e h0 => Nat.le_trans hb (h.f3 b o e h0), fun b o e h0 => Nat.le_trans hb (h.f4 b o e h0), fun b o e h0 => Nat.le_trans hb (h.f5 b o e h0), fun b o e h0 => Nat.le_trans hb (h.f6 b o e h0)⟩
def zeroT : List Value := [.int .i64 0, .int .i64 0, .int .i64 0, .int .i64 0, .slice none 0 0, .int .i64 0, .slice none 0 0, .slice none 0 0, .slice none 0 0, .slice none 0 0, .slice none 0 0, .slice none 0 0, .slice none 0 0, .slice none 0 0, .slice none 0 0]
/-- Ten blocks one behind the other. -/
theorem room_blocks (w X : World) (h : ((((((((((w.alloc (.cells zeroT.toArray 28)).alloc (.cells zeroW.toArray 31)).alloc (.cells #[.string ⟨#[120]⟩] 9)).alloc (.cells #[.string ⟨#[109, 101]⟩] 9)).alloc (.cells #[.string ⟨#[108, 97, 109, 112]⟩] 9)).alloc (.cells #[.string ⟨#[98, 114, 97, 115, 115]⟩] 9)).alloc (.cells #[.string ⟨#[108, 97, 109, 112]⟩] 9)).alloc (.cells #[.string ⟨#[114, 101, 100]⟩] 9)).alloc (.cells (roomR (w.heap.size + 2)).flatten.toArray 64)).alloc (.cells (tabC (roomX (w.heap.size + 2)) roomT).toArray 28)) = X) :
    BK X (w.heap.size + 0) zeroT 28 ∧ BK X (w.heap.size + 1) zeroW 31 ∧ BK X (w.heap.size + 2) [.string ⟨#[120]⟩] 9 ∧ BK X (w.heap.size + 3) [.string ⟨#[109, 101]⟩] 9 ∧ BK X (w.heap.size + 4) [.string ⟨#[108, 97, 109, 112]⟩] 9 ∧ BK X (w.heap.size + 5) [.string ⟨#[98, 114, 97, 115, 115]⟩] 9 ∧ BK X (w.heap.size + 6) [.string ⟨#[108, 97, 109, 112]⟩] 9 ∧ BK X (w.heap.size + 7) [.string ⟨#[114, 101, 100]⟩] 9 ∧ BK X (w.heap.size + 8) (roomR (w.heap.size + 2)).flatten 64 ∧ BK X (w.heap.size + 9) (tabC (roomX (w.heap.size + 2)) roomT) 28 ∧ Below w.heap.size w X ∧ X.heap.size = w.heap.size + 10 := by
 obtain ⟨X0, e0⟩ : ∃ Y, w.alloc (.cells zeroT.toArray 28) = Y := ⟨_, rfl⟩
 obtain ⟨X1, e1⟩ : ∃ Y, X0.alloc (.cells zeroW.toArray 31) = Y := ⟨_, rfl⟩
 obtain ⟨X2, e2⟩ : ∃ Y, X1.alloc (.cells #[.string ⟨#[120]⟩] 9) = Y := ⟨_, rfl⟩
 obtain ⟨X3, e3⟩ : ∃ Y, X2.alloc (.cells #[.string ⟨#[109, 101]⟩] 9) = Y := ⟨_, rfl⟩
 obtain ⟨X4, e4⟩ : ∃ Y, X3.alloc (.cells #[.string ⟨#[108, 97, 109, 112]⟩] 9) = Y := ⟨_, rfl⟩
 obtain ⟨X5, e5⟩ : ∃ Y, X4.alloc (.cells #[.string ⟨#[98, 114, 97, 115, 115]⟩] 9) = Y := ⟨_, rfl⟩
 obtain ⟨X6, e6⟩ : ∃ Y, X5.alloc (.cells #[.string ⟨#[108, 97, 109, 112]⟩] 9) = Y := ⟨_, rfl⟩
 obtain ⟨X7, e7⟩ : ∃ Y, X6.alloc (.cells #[.string ⟨#[114, 101, 100]⟩] 9) = Y := ⟨_, rfl⟩
 obtain ⟨X8, e8⟩ : ∃ Y, X7.alloc (.cells (roomR (w.heap.size + 2)).flatten.toArray 64) = Y := ⟨_, rfl⟩
 obtain ⟨X9, e9⟩ : ∃ Y, X8.alloc (.cells (tabC (roomX (w.heap.size + 2)) roomT).toArray 28) = Y := ⟨_, rfl⟩
 rw [e0, e1, e2, e3, e4, e5, e6, e7, e8, e9] at h
 subst h
 have z0 : X0.heap.size = w.heap.size + 1 := by rw [← e0, World.size_alloc]
 have b0 : BK X0 (w.heap.size + 0) zeroT 28 := by
  have := BK.new w zeroT 28
  rw [← e0]; exact this
 have z1 : X1.heap.size = w.heap.size + 2 := by rw [← e1, World.size_alloc, z0]
 have b1 : BK X1 (w.heap.size + 1) zeroW 31 := by
  have := BK.new X0 zeroW 31
  rw [z0] at this
  rw [← e1]; exact this
 have z2 : X2.heap.size = w.heap.size + 3 := by rw [← e2, World.size_alloc, z1]
 have b2 : BK X2 (w.heap.size + 2) [.string ⟨#[120]⟩] 9 := by
  have := BK.new X1 [.string ⟨#[120]⟩] 9
  rw [z1] at this
  rw [← e2]; exact this
 have z3 : X3.heap.size = w.heap.size + 4 := by rw [← e3, World.size_alloc, z2]
 have b3 : BK X3 (w.heap.size + 3) [.string ⟨#[109, 101]⟩] 9 := by
  have := BK.new X2 [.string ⟨#[109, 101]⟩] 9
  rw [z2] at this
  rw [← e3]; exact this
 have z4 : X4.heap.size = w.heap.size + 5 := by rw [← e4, World.size_alloc, z3]
 have b4 : BK X4 (w.heap.size + 4) [.string ⟨#[108, 97, 109, 112]⟩] 9 := by
  have := BK.new X3 [.string ⟨#[108, 97, 109, 112]⟩] 9
  rw [z3] at this
  rw [← e4]; exact this
 have z5 : X5.heap.size = w.heap.size + 6 := by rw [← e5, World.size_alloc, z4]
 have b5 : BK X5 (w.heap.size + 5) [.string ⟨#[98, 114, 97, 115, 115]⟩] 9 := by
  have := BK.new X4 [.string ⟨#[98, 114, 97, 115, 115]⟩] 9
  rw [z4] at this
  rw [← e5]; exact this
 have z6 : X6.heap.size = w.heap.size + 7 := by rw [← e6, World.size_alloc, z5]
 have b6 : BK X6 (w.heap.size + 6) [.string ⟨#[108, 97, 109, 112]⟩] 9 := by
  have := BK.new X5 [.string ⟨#[108, 97, 109, 112]⟩] 9
  rw [z5] at this
  rw [← e6]; exact this
 have z7 : X7.heap.size = w.heap.size + 8 := by rw [← e7, World.size_alloc, z6]
 have b7 : BK X7 (w.heap.size + 7) [.string ⟨#[114, 101, 100]⟩] 9 := by
  have := BK.new X6 [.string ⟨#[114, 101, 100]⟩] 9
  rw [z6] at this
  rw [← e7]; exact this
 have z8 : X8.heap.size = w.heap.size + 9 := by rw [← e8, World.size_alloc, z7]
 have b8 : BK X8 (w.heap.size + 8) (roomR (w.heap.size + 2)).flatten 64 := by
  have := BK.new X7 (roomR (w.heap.size + 2)).flatten 64
  rw [z7] at this
  rw [← e8]; exact this
 have z9 : X9.heap.size = w.heap.size + 10 := by rw [← e9, World.size_alloc, z8]
 have b9 : BK X9 (w.heap.size + 9) (tabC (roomX (w.heap.size + 2)) roomT) 28 := by
  have := BK.new X8 (tabC (roomX (w.heap.size + 2)) roomT) 28
  rw [z8] at this
  rw [← e9]; exact this
 have up1 : ∀ {b : Nat} {cs : List Value} {T : TypeId}, BK X0 b cs T → BK X1 b cs T := fun h => by rw [← e1]; exact h.alloc _
 have up2 : ∀ {b : Nat} {cs : List Value} {T : TypeId}, BK X1 b cs T → BK X2 b cs T := fun h => by rw [← e2]; exact h.alloc _
 have up3 : ∀ {b : Nat} {cs : List Value} {T : TypeId}, BK X2 b cs T → BK X3 b cs T := fun h => by rw [← e3]; exact h.alloc _
 have up4 : ∀ {b : Nat} {cs : List Value} {T : TypeId}, BK X3 b cs T → BK X4 b cs T := fun h => by rw [← e4]; exact h.alloc _
 have up5 : ∀ {b : Nat} {cs : List Value} {T : TypeId}, BK X4 b cs T → BK X5 b cs T := fun h => by rw [← e5]; exact h.alloc _
 have up6 : ∀ {b : Nat} {cs : List Value} {T : TypeId}, BK X5 b cs T → BK X6 b cs T := fun h => by rw [← e6]; exact h.alloc _
 have up7 : ∀ {b : Nat} {cs : List Value} {T : TypeId}, BK X6 b cs T → BK X7 b cs T := fun h => by rw [← e7]; exact h.alloc _
 have up8 : ∀ {b : Nat} {cs : List Value} {T : TypeId}, BK X7 b cs T → BK X8 b cs T := fun h => by rw [← e8]; exact h.alloc _
 have up9 : ∀ {b : Nat} {cs : List Value} {T : TypeId}, BK X8 b cs T → BK X9 b cs T := fun h => by rw [← e9]; exact h.alloc _
 refine ⟨(up9 (up8 (up7 (up6 (up5 (up4 (up3 (up2 (up1 b0))))))))), (up9 (up8 (up7 (up6 (up5 (up4 (up3 (up2 b1)))))))), (up9 (up8 (up7 (up6 (up5 (up4 (up3 b2))))))), (up9 (up8 (up7 (up6 (up5 (up4 b3)))))), (up9 (up8 (up7 (up6 (up5 b4))))), (up9 (up8 (up7 (up6 b5)))), (up9 (up8 (up7 b6))), (up9 (up8 b7)), (up9 b8), b9, ?_, z9⟩
 rw [← e9, ← e8, ← e7, ← e6, ← e5, ← e4, ← e3, ← e2, ← e1, ← e0]
 exact bl_a (bl_a (bl_a (bl_a (bl_a (bl_a (bl_a (bl_a (bl_a (bl_a (Below.refl _ _) _) _) _) _) _) _) _) _) _) _
def roomG0 (k : Nat) : Nat → Value → Prop
 | 0, v => v = tabV (roomX k) roomT
 | 1, v => v = tabV (roomX k) roomT
 | 2, v => ∃ q, v = worldV q
 | _, _ => True
def roomGG (s : Nat) : Nat → Value → World → Prop
 | 2, v, w => ∃ q, v = worldV q ∧ WRd w q (newD roomT) ∧ WFar s q (newD roomT)
 | _, _, _ => True
theorem roomGG_keep (s : Nat) : ∀ i v w w', Below w.heap.size w w' → roomGG s i v w → roomGG s i v w'
 | 2, v, w, w', hb, ⟨q, e, h, f⟩ => ⟨q, e, h.below hb, f⟩
 | 0, _, _, _, _, _ | 1, _, _, _, _, _ => trivial
 | n + 3, _, _, _, _, _ => trivial
set_option maxRecDepth 100000 in
set_option maxHeartbeats 16000000 in
theorem roomC (w : World) : Calls Tryz.prog 21 #[] w fun e w' => ∃ k q, e = .returned (.tuple #[tabV (roomX k) roomT, worldV q]) ∧ TabIs w' (roomX k) roomT ∧ WRd w' q (newD roomT) ∧ Below w.heap.size w w' := by
 have HNW := Lib.hid (fun k w' (ht : TabIs w' (roomX k) roomT) => newC (roomX k) roomT w' ht (by decide) (by decide) (by decide) (by decide))
 go_enter Tryz.func21, Tryz.ntmps21
 go_wp2_with fail
 obtain ⟨W, hW⟩ : ∃ W, ((((((((((w.alloc (.cells zeroT.toArray 28)).alloc (.cells zeroW.toArray 31)).alloc (.cells #[.string ⟨#[120]⟩] 9)).alloc (.cells #[.string ⟨#[109, 101]⟩] 9)).alloc (.cells #[.string ⟨#[108, 97, 109, 112]⟩] 9)).alloc (.cells #[.string ⟨#[98, 114, 97, 115, 115]⟩] 9)).alloc (.cells #[.string ⟨#[108, 97, 109, 112]⟩] 9)).alloc (.cells #[.string ⟨#[114, 101, 100]⟩] 9)).alloc (.cells (roomR (w.heap.size + 2)).flatten.toArray 64)).alloc (.cells (tabC (roomX (w.heap.size + 2)) roomT).toArray 28)) = W := ⟨_, rfl⟩
 have HBS := Lib.hid (room_blocks w W hW)
 change Code.wp _ _ _ _ ((((((((((w.alloc (.cells zeroT.toArray 28)).alloc (.cells zeroW.toArray 31)).alloc (.cells #[.string ⟨#[120]⟩] 9)).alloc (.cells #[.string ⟨#[109, 101]⟩] 9)).alloc (.cells #[.string ⟨#[108, 97, 109, 112]⟩] 9)).alloc (.cells #[.string ⟨#[98, 114, 97, 115, 115]⟩] 9)).alloc (.cells #[.string ⟨#[108, 97, 109, 112]⟩] 9)).alloc (.cells #[.string ⟨#[114, 101, 100]⟩] 9)).alloc (.cells (roomR (w.heap.size + 2)).flatten.toArray 64)).alloc (.cells (tabC (roomX (w.heap.size + 2)) roomT).toArray 28))
 rw [hW]
 clear hW
 obtain ⟨k0, k1, k2, k3, k4, k5, k6, k7, k8, k9, kb, kz⟩ := HBS.out
 have HT9 := Lib.hid k9
 have HT0 := Lib.hid k0
 have HT1 := Lib.hid k1
 have HBL := Lib.hid kb
 have HTI : Hid (TabIs W (roomX (w.heap.size + 2)) roomT) := Lib.hid (room_is k2 k3 k4 k5 k6 k7 k8)
 clear k0 k1 k2 k3 k4 k5 k6 k7 k8 k9 kb
 have hz9 : w.heap.size + 9 < W.heap.size := by omega
 have hz0 : w.heap.size < W.heap.size := by omega
 have hz1 : w.heap.size + 1 < W.heap.size := by omega
 clear kz
 have t0 := HT9.out.cell 0
 have t1 := HT9.out.cell 1
 have t2 := HT9.out.cell 2
 have t3 := HT9.out.cell 3
 have t4 := HT9.out.cell 4
 have t5 := HT9.out.cell 5
 have t6 := HT9.out.cell 6
 have t7 := HT9.out.cell 7
 have t8 := HT9.out.cell 8
 have t9 := HT9.out.cell 9
 have t10 := HT9.out.cell 10
 have t11 := HT9.out.cell 11
 have t12 := HT9.out.cell 12
 have t13 := HT9.out.cell 13
 have t14 := HT9.out.cell 14
 simp only [tabC, roomX, roomT, List.getElem?_cons_zero, List.getElem?_cons_succ] at t0 t1 t2 t3 t4 t5 t6 t7 t8 t9 t10 t11 t12 t13 t14
 refine region_krip 3 (fun w' => Below W.heap.size W w') (roomG0 (w.heap.size + 2)) (roomGG (w.heap.size + 2)) (by kernel_rfl) (by kernel_rfl) ((Below.refl _ _).drew) (roomGG_keep _) (fun KK hKK => ?_)
 intro OPS
 simp only [List.take]
 refine' inKrip_val rfl (fun _ _ => trivial) ?_ ?_ ?_ ?_
 rotate_left 1
 · rfl
 · (intro w' hS; obtain ⟨hcc, hff⟩ := bcell hS; go_simp; first | done | with_reducible rfl | rfl)
 · (simp only [Act.put, List.setIfInBounds_toArray, List.set_cons_zero, List.set_cons_succ]; with_reducible rfl)
 refine' inKrip_val rfl (fun _ _ => trivial) ?_ ?_ ?_ ?_
 rotate_left 1
 · rfl
 · (intro w' hS; obtain ⟨hcc, hff⟩ := bcell hS; go_simp; first | done | with_reducible rfl | rfl)
 · (simp only [Act.put, List.setIfInBounds_toArray, List.set_cons_zero, List.set_cons_succ]; with_reducible rfl)
 refine inKrip_any (f := 58) (args := #[tabV (roomX (w.heap.size + 2)) roomT]) rfl ⟨worldV ⟨none, none, none, none, none, none, none, 0, 0, 0, 0, 0, 0, 0, 0, 0, 0, 0, 0, 0, 0, 0, 0, 0, 0, 0, 0⟩, _, rfl⟩ ?_ ?_ ?_ ?_
 · rfl
 · intro w' hS; go_simp
 · intro w' hS hF
   refine (HNW.out _ w' (HTI.out.below hS)).mono (fun e w'' h => ?_)
   obtain ⟨q, rfl, hq, hb, hfa⟩ := h
   exact ⟨_, rfl, ⟨q, rfl⟩, ⟨q, rfl, hq, far_le hfa (by have := hS.size; omega)⟩, hb, bl_then hS hb⟩
 intro u2 _
 simp only [Act.put, List.setIfInBounds_toArray, List.set_cons_zero, List.set_cons_succ]
 refine inKrip_nil (hKK.out _ _ (fun w1 hS hF => ?_))
 simp only [List.drop]
 have h2 : roomGG (w.heap.size + 2) 2 u2 w1 := hF 2 (by decide)
 obtain ⟨q, rfl, hq, hfa⟩ := h2
 clear hF hKK
 have HQ := Lib.hid hq
 have HFA := Lib.hid hfa
 have HS1 := Lib.hid (bl_thenR HBL.out hS)
 have HB0 := Lib.hid (HT0.out.below hS)
 have HB1 := Lib.hid (HT1.out.below hS)
 have HS := Lib.hid hS
 clear hS hq hfa HTI HNW t0 t1 t2 t3 t4 t5 t6 t7 t8 t9 t10 t11 t12 t13 t14 hz9 hz0 hz1
 refine wpList_store_row rfl _ _ _ rfl w.heap.size (tabC (roomX (w.heap.size + 2)) roomT).toArray rfl rfl 28 zeroT.toArray HB0.out (by kernel_rfl) rfl (by simp [tabC, roomX, roomT, Value.oneCell']) ?_
 refine wpList_store_row rfl _ _ _ rfl (w.heap.size + 1) (worldC q).toArray rfl rfl 31 zeroW.toArray (bk_rowO HB1.out (by omega)) (by kernel_rfl) rfl (by simp [worldC, Value.oneCell']) ?_
 generalize hWf : World.setRow (World.setRow w1 _ _) _ _ = Wf
 have HF0 : Hid (BK Wf w.heap.size (tabC (roomX (w.heap.size + 2)) roomT) 28) := Lib.hid (by rw [← hWf]; exact bk_rowO (bk_row HB0.out) (by omega))
 have HF1 : Hid (BK Wf (w.heap.size + 1) (worldC q) 31) := Lib.hid (by rw [← hWf]; exact bk_row (bk_rowO HB1.out (by omega)))
 have HBF : Hid (Below w.heap.size w Wf) := Lib.hid (by rw [← hWf]; exact bl_row (bl_row HS1.out (Nat.le_refl _) _) (Nat.le_succ _) _)
 have HWQ : Hid (WRd Wf q (newD roomT)) := Lib.hid (by
  rw [← hWf]
  exact wrd_but (S := [w.heap.size, w.heap.size + 1]) HQ.out HFA.out (but_row (but_row (But.refl _ _ _) (by simp) _) (by simp) _) (by intro b hb; simp at hb; omega))
 have HTF : Hid (TabIs Wf (roomX (w.heap.size + 2)) roomT) := Lib.hid (by
  rw [← hWf]
  obtain ⟨k0, k1, k2, k3, k4, k5, k6, k7, k8, k9, kb, kz⟩ := HBS.out
  have up : ∀ {b : Nat} {cs : List Value} {T : TypeId}, BK W b cs T → w.heap.size + 2 ≤ b → BK ((w1.setRow w.heap.size (tabC (roomX (w.heap.size + 2)) roomT).toArray).setRow (w.heap.size + 1) (worldC q).toArray) b cs T := fun h hb => bk_rowO (bk_rowO (h.below HS.out) (by omega)) (by omega)
  exact room_is (up k2 (by omega)) (up k3 (by omega)) (up k4 (by omega)) (up k5 (by omega)) (up k6 (by omega)) (up k7 (by omega)) (up k8 (by omega)))
 clear hWf
 have e0 := HF0.out.cell 0
 have e1 := HF0.out.cell 1
 have e2 := HF0.out.cell 2
 have e3 := HF0.out.cell 3
 have e4 := HF0.out.cell 4
 have e5 := HF0.out.cell 5
 have e6 := HF0.out.cell 6
 have e7 := HF0.out.cell 7
 have e8 := HF0.out.cell 8
 have e9 := HF0.out.cell 9
 have e10 := HF0.out.cell 10
 have e11 := HF0.out.cell 11
 have e12 := HF0.out.cell 12
 have e13 := HF0.out.cell 13
 have e14 := HF0.out.cell 14
 have g0 := HF1.out.cell 0
 have g1 := HF1.out.cell 1
 have g2 := HF1.out.cell 2
 have g3 := HF1.out.cell 3
 have g4 := HF1.out.cell 4
 have g5 := HF1.out.cell 5
 have g6 := HF1.out.cell 6
 have g7 := HF1.out.cell 7
 have g8 := HF1.out.cell 8
 have g9 := HF1.out.cell 9
 have g10 := HF1.out.cell 10
 have g11 := HF1.out.cell 11
 have g12 := HF1.out.cell 12
 simp only [tabC, roomX, roomT, List.getElem?_cons_zero, List.getElem?_cons_succ] at e0 e1 e2 e3 e4 e5 e6 e7 e8 e9 e10 e11 e12 e13 e14
 simp only [worldC, List.getElem?_cons_zero, List.getElem?_cons_succ] at g0 g1 g2 g3 g4 g5 g6 g7 g8 g9 g10 g11 g12
 have hz0' : w.heap.size < Wf.heap.size := HF0.out.lt
 have hz1' : w.heap.size + 1 < Wf.heap.size := HF1.out.lt
 go_wp2_with fail
 refine bodyPost_ret (v := .tuple #[tabV (roomX (w.heap.size + 2)) roomT, worldV q]) ?_ rfl ⟨_, _, rfl, HTF.out, HWQ.out, HBF.out⟩
 simp [results, Tryz.results21, go_sem, e0, e1, e2, e3, e4, e5, e6, e7, e8, e9, e10, e11, e12, e13, e14, g0, g1, g2, g3, g4, g5, g6, g7, g8, g9, g10, g11, g12, tabV, tabC, roomX, roomT, worldV, worldC]
end Go.Proofs.YtjggklfegcejhaaGreat
namespace Go.Proofs.YtjggklfegcejhaaGreat
open Go.RowKit Go.PlainAid Go.Deep
set_option linter.unusedVariables false
set_option linter.unusedSimpArgs false

theorem one_noit {t : TbC} {seen : List Int} {sit : Bool} {it : Int} {ks : List TxC} (h : itK ∉ ks) : oneN t seen sit it ks = oneN t seen false 0 ks := by
 unfold oneN
 cases hd : ks.drop (artN ks) with
 | nil => rfl
 | cons k r =>
   have hk : k ≠ itK := fun e => h (by
    have : k ∈ ks.drop (artN ks) := by rw [hd]; simp
    rw [← e]; exact List.mem_of_mem_drop this)
   simp only [if_neg hk]
theorem list_noit {one1 one2 : List TxC → Int × Nat × Int} {ks : List TxC} (ho : ∀ l, itK ∉ l → one1 l = one2 l) (h : itK ∉ ks) : ∀ (f u : Nat) (l : List Int), listN one1 ks f u l = listN one2 ks f u l
 | 0, _, _ => rfl
 | f + 1, u, l => by
   have h1 := ho (ks.drop u) (fun hm => h (List.mem_of_mem_drop hm))
   simp only [listN, h1, list_noit ho h f]
theorem many_noit {one1 one2 : List TxC → Int × Nat × Int} (ho : ∀ l, itK ∉ l → one1 l = one2 l) {vis car : List Int} {ks : List TxC} (h : itK ∉ ks) : manyN one1 vis car ks = manyN one2 vis car ks := by
 cases ks with
 | nil => simp only [manyN, list_noit ho h]
 | cons k r =>
   cases r with
   | nil => simp only [manyN, list_noit ho h]
   | cons b q =>
     have hq : itK ∉ q := fun hm => h (List.mem_cons_of_mem _ (List.mem_cons_of_mem _ hm))
     simp only [manyN, list_noit ho h, list_noit ho hq]
instance : DecidableEq PhC := fun a b => if h : a.th = b.th ∧ a.us = b.us ∧ a.er = b.er then .isTrue (by cases a; cases b; simp only at h; obtain ⟨rfl, rfl, rfl⟩ := h; rfl) else .isFalse (fun e => h (by subst e; exact ⟨rfl, rfl, rfl⟩))
/-- What one thing the room's words mean. -/
def roomO : List TxC → Int × Nat × Int := oneN roomT (seenTo (seesN (newD roomT) 5) 5) false 0
theorem roomO_eq (q : Wv) {ks : List TxC} (h : itK ∉ ks) : oneW roomT q (newD roomT) ks = roomO ks := one_noit h
def theW : TxC := [116, 104, 101]
def boxW : TxC := [98, 111, 120]
def aebl : List TxC := [[97, 108, 108], [101, 120, 99, 101, 112, 116], brassW, lampW]
theorem room_a (q : Wv) : parseN (oneW roomT q (newD roomT)) (visN (newD roomT) 5) (reachV (newD roomT) 5 1) (aebl.map keyW) true = ⟨[4], 4, 0⟩ := by
 unfold parseN
 rw [if_pos rfl]
 rw [many_noit (one2 := roomO) (fun l hl => roomO_eq q hl) (by decide)]
 decide +kernel
theorem room_1 (q : Wv) : itemN (oneW roomT q (newD roomT) ([brassW, lampW].map keyW)) = ⟨[3], 2, 0⟩ := by
 rw [roomO_eq q (by decide)]; decide +kernel
theorem room_2 (q : Wv) : (itemN (oneW roomT q (newD roomT) ([lampW].map keyW))) = ⟨[], 1, 10⟩ := by
 rw [roomO_eq q (by decide)]; decide +kernel
theorem room_3 (q : Wv) : (itemN (oneW roomT q (newD roomT) ([theW].map keyW))) = ⟨[], 0, 2⟩ := by
 rw [roomO_eq q (by decide)]; decide +kernel
theorem room_4 (q : Wv) : (itemN (oneW roomT q (newD roomT) ([boxW].map keyW))) = ⟨[], 0, 11⟩ := by
 rw [roomO_eq q (by decide)]; decide +kernel
theorem field_er (p : Option Addr) (n c : Nat) (u e : Int) (w : World) : (Instr.field 36 (.agg #[.slice p n c, .int .i64 u, .int .i64 e]) 2).run Tryz.prog w = .ok (.int .i64 e) w := by kernel_rfl
theorem ints_one (W : World) (m : Int) : Ints (W.alloc (.cells #[.int .i64 m] 3)) (.slice (some ⟨W.heap.size, 0, none⟩) 1 1) [m] :=
 ⟨_, 1, rfl, by show 1 ≤ maxLen; decide, fun _ => ⟨W.heap.size, 0, rfl, by rw [World.size_alloc]; omega, fun i hi => by
  have h0 : i = 0 := by simpa using hi
  subst h0
  exact (BK.new W [.int .i64 m] 3).cell 0⟩⟩
set_option maxRecDepth 100000 in
set_option maxHeartbeats 16000000 in
theorem awake36 (w : World) : Calls Tryz.prog 7 #[] w fun e w' => e = .returned (.bool true) ∧ Below w.heap.size w w' := by
 have HSM := Lib.hid (fun (m u : Int) (n : Nat) (W : World) (p : Option Addr) (c : Nat) (h : Ints W (.slice p 1 c) [m]) => by
  have := same36 ⟨[m], n, 0⟩ ⟨[m], n, 0⟩ p (some ⟨W.heap.size, 0, none⟩) c 1 (W.alloc (.cells #[.int .i64 m] 3)) (h.below (bl_a (Below.refl _ _) _)) (ints_one W m)
  rw [sameP_self] at this
  exact this)
 go_enter Tryz.func7, Tryz.ntmps7
 go_wp2_with fail
 refine (roomC _).mono ?_
 rintro e w1 ⟨k, q, rfl, ht, hw, hb1⟩
 have hok := room_ok hw
 have hnew := Two.new (roomX k) roomT q w1
 have HPA := Lib.hid (fun W (hb : Below w1.heap.size w1 W) => by
  have := parseC (roomX k) roomT q (newD roomT) (some ⟨W.heap.size, 0, none⟩) aebl 4 true (W.alloc (.cells (aebl.map strC).toArray 9)) (ht.below (bl_a hb _)) (hok.below (bl_a hb _)) room_reach (wds_lit W _ _ (by decide)) (by decide) (by decide)
  rw [show roomT.th.length = 5 from rfl, room_a q] at this
  exact this)
 have HPA : Hid (∀ W, Below w1.heap.size w1 W → Calls Tryz.prog 11 #[tabV (roomX k) roomT, worldV q, .slice (some ⟨W.heap.size, 0, none⟩) 4 4, .bool true] (W.alloc (.cells #[.string ⟨#[97, 108, 108]⟩, .string ⟨#[101, 120, 99, 101, 112, 116]⟩, .string ⟨#[98, 114, 97, 115, 115]⟩, .string ⟨#[108, 97, 109, 112]⟩] 9)) (RetPh (W.alloc (.cells #[.string ⟨#[97, 108, 108]⟩, .string ⟨#[101, 120, 99, 101, 112, 116]⟩, .string ⟨#[98, 114, 97, 115, 115]⟩, .string ⟨#[108, 97, 109, 112]⟩] 9)) ⟨[4], 4, 0⟩)) := HPA
 have HI1 := Lib.hid (fun W (hb : Below w1.heap.size w1 W) => by
  have := itemC (roomX k) roomT q (newD roomT) (some ⟨W.heap.size, 0, none⟩) [brassW, lampW] 2 (W.alloc (.cells ([brassW, lampW].map strC).toArray 9)) (ht.below (bl_a hb _)) (hok.below (bl_a hb _)) room_reach (wds_lit W _ _ (by decide)) (by decide) (by decide)
  rw [room_1 q] at this
  exact this)
 have HI1 : Hid (∀ W, Below w1.heap.size w1 W → Calls Tryz.prog 8 #[tabV (roomX k) roomT, worldV q, .slice (some ⟨W.heap.size, 0, none⟩) 2 2] (W.alloc (.cells #[.string ⟨#[98, 114, 97, 115, 115]⟩, .string ⟨#[108, 97, 109, 112]⟩] 9)) (RetPh (W.alloc (.cells #[.string ⟨#[98, 114, 97, 115, 115]⟩, .string ⟨#[108, 97, 109, 112]⟩] 9)) ⟨[3], 2, 0⟩)) := HI1
 have HI2 := Lib.hid (fun W (hb : Below w1.heap.size w1 W) => by
  have := itemC (roomX k) roomT q (newD roomT) (some ⟨W.heap.size, 0, none⟩) [lampW] 1 (W.alloc (.cells ([lampW].map strC).toArray 9)) (ht.below (bl_a hb _)) (hok.below (bl_a hb _)) room_reach (wds_lit W _ _ (by decide)) (by decide) (by decide)
  rw [room_2 q] at this
  exact this)
 have HI2 : Hid (∀ W, Below w1.heap.size w1 W → Calls Tryz.prog 8 #[tabV (roomX k) roomT, worldV q, .slice (some ⟨W.heap.size, 0, none⟩) 1 1] (W.alloc (.cells #[.string ⟨#[108, 97, 109, 112]⟩] 9)) (RetPh (W.alloc (.cells #[.string ⟨#[108, 97, 109, 112]⟩] 9)) ⟨[], 1, 10⟩)) := HI2
 have HI3 := Lib.hid (fun W (hb : Below w1.heap.size w1 W) => by
  have := itemC (roomX k) roomT q (newD roomT) (some ⟨W.heap.size, 0, none⟩) [theW] 1 (W.alloc (.cells ([theW].map strC).toArray 9)) (ht.below (bl_a hb _)) (hok.below (bl_a hb _)) room_reach (wds_lit W _ _ (by decide)) (by decide) (by decide)
  rw [room_3 q] at this
  exact this)
 have HI3 : Hid (∀ W, Below w1.heap.size w1 W → Calls Tryz.prog 8 #[tabV (roomX k) roomT, worldV q, .slice (some ⟨W.heap.size, 0, none⟩) 1 1] (W.alloc (.cells #[.string ⟨#[116, 104, 101]⟩] 9)) (RetPh (W.alloc (.cells #[.string ⟨#[116, 104, 101]⟩] 9)) ⟨[], 0, 2⟩)) := HI3
 have HI4 := Lib.hid (fun W (hb : Below w1.heap.size w1 W) => by
  have := itemC (roomX k) roomT q (newD roomT) (some ⟨W.heap.size, 0, none⟩) [boxW] 1 (W.alloc (.cells ([boxW].map strC).toArray 9)) (ht.below (bl_a hb _)) (hok.below (bl_a hb _)) room_reach (wds_lit W _ _ (by decide)) (by decide) (by decide)
  rw [room_4 q] at this
  exact this)
 have HI4 : Hid (∀ W, Below w1.heap.size w1 W → Calls Tryz.prog 8 #[tabV (roomX k) roomT, worldV q, .slice (some ⟨W.heap.size, 0, none⟩) 1 1] (W.alloc (.cells #[.string ⟨#[98, 111, 120]⟩] 9)) (RetPh (W.alloc (.cells #[.string ⟨#[98, 111, 120]⟩] 9)) ⟨[], 0, 11⟩)) := HI4
 clear ht hw hok
 generalize roomX k = x at *
 generalize roomT = t at *
 obtain ⟨W0, hW0⟩ : ∃ W0, (w1.alloc (.cells (tabC x t).toArray 28)).alloc (.cells (worldC q).toArray 31) = W0 := ⟨_, rfl⟩
 rw [hW0] at hnew
 have HB1 := Lib.hid hb1
 clear hb1
 have HTW := Lib.hid (hnew)
 have HTWt := Lib.hid HTW.out.bt
 have HTWw := Lib.hid HTW.out.bw
 obtain ⟨kt0, kt1, kt2, kt3, kt4, kt5, kt6, kt7, kt8, kt9, kt10, kt11, kt12, kt13, kt14⟩ := tab15 (HTWt.out)
 obtain ⟨b0, b1, b2, b3, b4, b5, b6, b7, b8, b9, bA, bB, bC⟩ := wd13 (HTWw.out)
 clear hnew
 unfold tabV worldV at *
 unfold worldC at HPA HI1 HI2 HI3 HI4 hW0 ⊢
 unfold tabC at HPA HI1 HI2 HI3 HI4 hW0 ⊢
 go_wp2_with fail
 clear hW0
 refine (HPA.out _ HTW.out.bl).mono ?_
 rintro e w2 ⟨pa, pc, rfl, hI, hb2, _⟩
 have hnew := HTW.out.below (bl_then (bl_a (Below.refl _ _) _) hb2)
 clear kt0 kt1 kt2 kt3 kt4 kt5 kt6 kt7 kt8 kt9 kt10 kt11 kt12 kt13 kt14
 clear b0 b1 b2 b3 b4 b5 b6 b7 b8 b9 bA bB bC
 clear HTWt HTWw
 clear HTW
 have HTW := Lib.hid (hnew)
 have HTWt := Lib.hid HTW.out.bt
 have HTWw := Lib.hid HTW.out.bw
 obtain ⟨kt0, kt1, kt2, kt3, kt4, kt5, kt6, kt7, kt8, kt9, kt10, kt11, kt12, kt13, kt14⟩ := tab15 (HTWt.out)
 obtain ⟨b0, b1, b2, b3, b4, b5, b6, b7, b8, b9, bA, bB, bC⟩ := wd13 (HTWw.out)
 clear hnew
 dsimp only [List.length_cons, List.length_nil] at hI ⊢
 have HIA := Lib.hid hI
 clear hI hb2
 go_upto_region 3 with (fail)
 generalize hW3 : World.alloc w2 _ = W3
 have HPB : Hid (BK W3 w2.heap.size [.slice pa 1 pc, .int .i64 4, .int .i64 0] 36) := Lib.hid (by rw [← hW3]; exact BK.new _ _ _)
 have hb3 : Below w2.heap.size w2 W3 := by rw [← hW3]; exact bl_a (Below.refl _ _) _
 have HIA3 := Lib.hid (HIA.out.below hb3)
 have hnew := HTW.out.below hb3
 clear kt0 kt1 kt2 kt3 kt4 kt5 kt6 kt7 kt8 kt9 kt10 kt11 kt12 kt13 kt14
 clear b0 b1 b2 b3 b4 b5 b6 b7 b8 b9 bA bB bC
 clear HTWt HTWw
 clear HTW
 have HTW := Lib.hid (hnew)
 have HTWt := Lib.hid HTW.out.bt
 have HTWw := Lib.hid HTW.out.bw
 obtain ⟨kt0, kt1, kt2, kt3, kt4, kt5, kt6, kt7, kt8, kt9, kt10, kt11, kt12, kt13, kt14⟩ := tab15 (HTWt.out)
 obtain ⟨b0, b1, b2, b3, b4, b5, b6, b7, b8, b9, bA, bB, bC⟩ := wd13 (HTWw.out)
 clear hnew
 clear hW3 hb3 HIA
 go_wp2_with fail
 refine (HI1.out _ HTW.out.bl).mono ?_
 rintro e w4 ⟨p4, c4, rfl, hI4, hb4, _⟩
 have HPB4 := Lib.hid (HPB.out.below (bl_then (bl_a (Below.refl _ _) _) hb4))
 have HIA4 := Lib.hid (HIA3.out.below (bl_then (bl_a (Below.refl _ _) _) hb4))
 have hnew := HTW.out.below (bl_then (bl_a (Below.refl _ _) _) hb4)
 clear kt0 kt1 kt2 kt3 kt4 kt5 kt6 kt7 kt8 kt9 kt10 kt11 kt12 kt13 kt14
 clear b0 b1 b2 b3 b4 b5 b6 b7 b8 b9 bA bB bC
 clear HTWt HTWw
 clear HTW
 have HTW := Lib.hid (hnew)
 have HTWt := Lib.hid HTW.out.bt
 have HTWw := Lib.hid HTW.out.bw
 obtain ⟨kt0, kt1, kt2, kt3, kt4, kt5, kt6, kt7, kt8, kt9, kt10, kt11, kt12, kt13, kt14⟩ := tab15 (HTWt.out)
 obtain ⟨b0, b1, b2, b3, b4, b5, b6, b7, b8, b9, bA, bB, bC⟩ := wd13 (HTWw.out)
 clear hnew
 dsimp only [List.length_cons, List.length_nil] at hI4 ⊢
 have HS4 := Lib.hid (HSM.out 3 0 2 w4 p4 c4 hI4)
 clear hI4 hb4 HPB HIA3
 go_wp2_with fail
 refine HS4.out.mono ?_
 rintro e w5 ⟨rfl, hb5⟩
 have HPB5 := Lib.hid (HPB4.out.below (bl_then (bl_a (Below.refl _ _) _) hb5))
 have HIA5 := Lib.hid (HIA4.out.below (bl_then (bl_a (Below.refl _ _) _) hb5))
 have hnew := HTW.out.below (bl_then (bl_a (Below.refl _ _) _) hb5)
 clear kt0 kt1 kt2 kt3 kt4 kt5 kt6 kt7 kt8 kt9 kt10 kt11 kt12 kt13 kt14
 clear b0 b1 b2 b3 b4 b5 b6 b7 b8 b9 bA bB bC
 clear HTWt HTWw
 clear HTW
 have HTW := Lib.hid (hnew)
 have HTWt := Lib.hid HTW.out.bt
 have HTWw := Lib.hid HTW.out.bw
 obtain ⟨kt0, kt1, kt2, kt3, kt4, kt5, kt6, kt7, kt8, kt9, kt10, kt11, kt12, kt13, kt14⟩ := tab15 (HTWt.out)
 obtain ⟨b0, b1, b2, b3, b4, b5, b6, b7, b8, b9, bA, bB, bC⟩ := wd13 (HTWw.out)
 clear hnew
 clear hb5 HPB4 HIA4 HS4
 have hfd := fun (p : Option Addr) (n c : Nat) (u e : Int) (w : World) => field_er p n c u e w
 go_wp2_with fail
 refine (HI2.out _ HTW.out.bl).mono ?_
 rintro e w6 ⟨p6, c6, rfl, _, hb6, _⟩
 have HPB6 := Lib.hid (HPB5.out.below (bl_then (bl_a (Below.refl _ _) _) hb6))
 have HIA6 := Lib.hid (HIA5.out.below (bl_then (bl_a (Below.refl _ _) _) hb6))
 have hnew := HTW.out.below (bl_then (bl_a (Below.refl _ _) _) hb6)
 clear kt0 kt1 kt2 kt3 kt4 kt5 kt6 kt7 kt8 kt9 kt10 kt11 kt12 kt13 kt14
 clear b0 b1 b2 b3 b4 b5 b6 b7 b8 b9 bA bB bC
 clear HTWt HTWw
 clear HTW
 have HTW := Lib.hid (hnew)
 have HTWt := Lib.hid HTW.out.bt
 have HTWw := Lib.hid HTW.out.bw
 obtain ⟨kt0, kt1, kt2, kt3, kt4, kt5, kt6, kt7, kt8, kt9, kt10, kt11, kt12, kt13, kt14⟩ := tab15 (HTWt.out)
 obtain ⟨b0, b1, b2, b3, b4, b5, b6, b7, b8, b9, bA, bB, bC⟩ := wd13 (HTWw.out)
 clear hnew
 dsimp only [List.length_nil]
 clear hb6 HPB5 HIA5
 go_wp2_with fail
 refine (HI3.out _ HTW.out.bl).mono ?_
 rintro e w7 ⟨p7, c7, rfl, _, hb7, _⟩
 have HPB7 := Lib.hid (HPB6.out.below (bl_then (bl_a (Below.refl _ _) _) hb7))
 have HIA7 := Lib.hid (HIA6.out.below (bl_then (bl_a (Below.refl _ _) _) hb7))
 have hnew := HTW.out.below (bl_then (bl_a (Below.refl _ _) _) hb7)
 clear kt0 kt1 kt2 kt3 kt4 kt5 kt6 kt7 kt8 kt9 kt10 kt11 kt12 kt13 kt14
 clear b0 b1 b2 b3 b4 b5 b6 b7 b8 b9 bA bB bC
 clear HTWt HTWw
 clear HTW
 have HTW := Lib.hid (hnew)
 have HTWt := Lib.hid HTW.out.bt
 have HTWw := Lib.hid HTW.out.bw
 obtain ⟨kt0, kt1, kt2, kt3, kt4, kt5, kt6, kt7, kt8, kt9, kt10, kt11, kt12, kt13, kt14⟩ := tab15 (HTWt.out)
 obtain ⟨b0, b1, b2, b3, b4, b5, b6, b7, b8, b9, bA, bB, bC⟩ := wd13 (HTWw.out)
 clear hnew
 dsimp only [List.length_nil]
 clear hb7 HPB6 HIA6
 go_wp2_with fail
 refine (HI4.out _ HTW.out.bl).mono ?_
 rintro e w8 ⟨p8, c8, rfl, _, hb8, _⟩
 have HPB8 := Lib.hid (HPB7.out.below (bl_then (bl_a (Below.refl _ _) _) hb8))
 have HIA8 := Lib.hid (HIA7.out.below (bl_then (bl_a (Below.refl _ _) _) hb8))
 have hnew := HTW.out.below (bl_then (bl_a (Below.refl _ _) _) hb8)
 clear kt0 kt1 kt2 kt3 kt4 kt5 kt6 kt7 kt8 kt9 kt10 kt11 kt12 kt13 kt14
 clear b0 b1 b2 b3 b4 b5 b6 b7 b8 b9 bA bB bC
 clear HTWt HTWw
 clear HTW
 have HTW := Lib.hid (hnew)
 have HTWt := Lib.hid HTW.out.bt
 have HTWw := Lib.hid HTW.out.bw
 obtain ⟨kt0, kt1, kt2, kt3, kt4, kt5, kt6, kt7, kt8, kt9, kt10, kt11, kt12, kt13, kt14⟩ := tab15 (HTWt.out)
 obtain ⟨b0, b1, b2, b3, b4, b5, b6, b7, b8, b9, bA, bB, bC⟩ := wd13 (HTWw.out)
 clear hnew
 dsimp only [List.length_nil]
 clear hb8 HPB7 HIA7
 have y0 := HPB8.out.cell 0
 have y1 := HPB8.out.cell 1
 have y2 := HPB8.out.cell 2
 simp only [List.getElem?_cons_zero, List.getElem?_cons_succ] at y0 y1 y2
 have hz2 : w2.heap.size < w8.heap.size := HPB8.out.lt
 have HS9 := Lib.hid (HSM.out 4 0 4 w8 pa pc HIA8.out)
 go_wp2_with fail
 refine HS9.out.mono ?_
 rintro e w9 ⟨rfl, hb9⟩
 have HB9 := Lib.hid (bl_then HB1.out (bl_then HTW.out.bl (bl_then (bl_a (Below.refl _ _) _) hb9)))
 clear hb9
 clear kt0 kt1 kt2 kt3 kt4 kt5 kt6 kt7 kt8 kt9 kt10 kt11 kt12 kt13 kt14
 clear b0 b1 b2 b3 b4 b5 b6 b7 b8 b9 bA bB bC
 clear HTWt HTWw
 go_wp2_with fail
 go_ret
 exact ⟨rfl, HB9.out⟩
end Go.Proofs.YtjggklfegcejhaaGreat
namespace Go.Proofs.YtjggklfegcejhaaGreat
open Go.RowKit Go.PlainAid Go.ChangeShapes Go.WideShapes Go.Deep
set_option linter.unusedVariables false
set_option linter.unusedSimpArgs false

set_option maxRecDepth 100000 in
theorem strs_open {H : Type} {enc : TypeId × Value → H} {w : World} {r : Reach} {b0 base : Nat} {spare : Nat → Bool} {held : Bool} {v : Value} {d : DataW H} {p : List MemPlace} (hv : Value.okWide Tryz.prog w r b0 22 v)
    (h : DataW.Trod enc Tryz.prog w base spare held 22 v d p) (hn : Near Tryz.prog 22 d) : ∃ (a : Option Addr) (l : List TxC) (c : Nat), v = .slice a l.length c ∧ l.length ≤ c ∧ l.length ≤ maxLen ∧ Wds w a l := by
 obtain ⟨a, n, c, rfl⟩ := okWide_slice Tryz.underlying22 hv
 obtain ⟨fuel, hf⟩ := h
 obtain ⟨l, hl⟩ := opens_strs enc w base spare held fuel _ _ hf hn
 obtain ⟨a', c', e, h1, h2, h3⟩ := reads_wds (v := .slice a n c) (l := l) hl
 exact ⟨a', l, c', e, h1, h2, h3⟩
end Go.Proofs.YtjggklfegcejhaaGreat
