/- Contract of clewref15.put: a name in its place. -/
import Derived.Test.YtdommneciojiaaaNamesAdd
import Derived.BigQuiet
namespace Go.Proofs.Ytdommneciojiaaa
open Go.RowKit Go.PlainAid
set_option linter.unusedVariables false
set_option linter.unusedSimpArgs false

/-- Where a name stands among others. -/
def posN (l : List NM) (x : NM) : Nat := (l.takeWhile fun a => ltS a.nm x.nm).length
theorem put_pos : ∀ (l : List NM) (x : NM), putN l x = l.take (posN l x) ++ x :: l.drop (posN l x)
  | [], x => rfl
  | a :: t, x => by
    rw [putN]
    unfold posN
    by_cases h : ltS a.nm x.nm = true
    · rw [if_pos h, List.takeWhile_cons, if_pos h, List.length_cons, List.take_succ_cons, List.drop_succ_cons, List.cons_append, put_pos t x]
      rfl
    · rw [if_neg h, List.takeWhile_cons, if_neg h]; rfl
theorem pos_le (l : List NM) (x : NM) : posN l x ≤ l.length := (List.takeWhile_sublist _).length_le
theorem pos_step : ∀ (l : List NM) (x : NM) (p : Nat) (h : p < l.length), p ≤ posN l x → (ltS (l[p]).nm x.nm = true → p + 1 ≤ posN l x) ∧ (ltS (l[p]).nm x.nm = false → p = posN l x)
  | a :: t, x, 0, h, _ => by
    unfold posN
    rw [List.takeWhile_cons]
    constructor
    · intro h1
      have h2 : ltS a.nm x.nm = true := h1
      rw [if_pos h2]; simp
    · intro h1
      have h2 : ltS a.nm x.nm = false := h1
      rw [if_neg (by rw [h2]; decide)]; rfl
  | a :: t, x, p + 1, h, hp => by
    unfold posN at hp ⊢
    rw [List.takeWhile_cons] at hp ⊢
    by_cases hc : ltS a.nm x.nm = true
    · rw [if_pos hc] at hp ⊢
      have := pos_step t x p (by simpa using h) (by unfold posN; simpa using hp)
      unfold posN at this
      constructor
      · intro h1; have := this.1 h1; simp; omega
      · intro h1; have := this.2 h1; simp; omega
    · rw [if_neg hc] at hp; simp at hp
theorem OwN.app {w : World} {base n : Nat} {v : Value} {L M : List NM} (hn : n = L.length + M.length) (h : w.ownsRow base 46 3 v n ((L.map nmCells).flatten ++ (M.map nmCells).flatten)) : OwN w base v (L ++ M) := by
  subst hn; unfold OwN; simpa using h
/-- The cells of some rows of a slice. -/
theorem rows_news {w : World} {b off : Nat} {l : List NM} (hc : ∀ i (hi : i < l.length), w.cell? ⟨b, off + i * 3, none⟩ = some (.string ⟨(l[i]).nm.toArray⟩) ∧ w.cell? ⟨b, off + i * 3 + 1, none⟩ = some (.int .i64 (l[i]).kd) ∧ w.cell? ⟨b, off + i * 3 + 2, none⟩ = some (.int .i64 (l[i]).nu))
    (p q : Nat) (hq : p + q ≤ l.length) : ∀ j u, ((((l.drop p).take q).map nmCells).flatten)[j]? = some u → w.cell? ((⟨b, off + p * 3, none⟩ : Addr).add j) = some u := by
  intro j u hj
  have hlen : ∀ r ∈ ((l.drop p).take q).map nmCells, r.length = 3 := fun r hr => by obtain ⟨x, _, rfl⟩ := List.mem_map.1 hr; rfl
  have hql : ((l.drop p).take q).length = q := by simp; omega
  have hjl : j < q * 3 := by
    obtain ⟨h, _⟩ := List.getElem?_eq_some_iff.1 hj
    rw [flat_len (k := 3) _ hlen, List.length_map, hql] at h; exact h
  have e : j = j / 3 * 3 + j % 3 := by omega
  have hi : j / 3 < q := by omega
  have hm : j % 3 < 3 := Nat.mod_lt _ (by decide)
  rw [e, flat_at _ hlen (j / 3) (j % 3) (by rw [List.length_map, hql]; exact hi) hm] at hj
  simp only [List.getElem_map, List.getElem_take, List.getElem_drop] at hj
  have h3 := hc (p + j / 3) (by omega)
  rw [addr_addC, show off + p * 3 + j = off + (p + j / 3) * 3 + j % 3 from by omega]
  have hm3 : j % 3 = 0 ∨ j % 3 = 1 ∨ j % 3 = 2 := by omega
  rcases hm3 with h | h | h <;> rw [h] at hj ⊢ <;> simp [nmCells] at hj <;> subst hj
  · exact h3.1
  · exact h3.2.1
  · exact h3.2.2
theorem nm_cells_one (L : List NM) : ∀ u ∈ (L.map nmCells).flatten, u.oneCell' = true := by
  intro u hu
  obtain ⟨r, hr, hu⟩ := List.mem_flatten.1 hu
  obtain ⟨x, _, rfl⟩ := List.mem_map.1 hr
  exact nmCells_one x u hu
theorem nm_cells_len (L : List NM) : ((L.map nmCells).flatten).length = L.length * 3 := by rw [flat_len (k := 3) _ (fun r hr => by obtain ⟨x, _, rfl⟩ := List.mem_map.1 hr; rfl)]; simp

set_option maxRecDepth 100000 in
set_option maxHeartbeats 4000000 in
theorem refPut (v : Value) (l : List NM) (x : NM) (w : World) (hv : Reads Cd.nm.seq w v l) (hl : l.length ≤ 100000) (h0 : 0 < l.length) :
    Calls Try.prog 32 #[v, .agg (nmCells x).toArray] w fun e w' => ∃ r, e = .returned r ∧ OwN w' (w.heap.size + 1) r (putN l x) ∧ Below w.heap.size w w' := by
  have HV := Lib.hid hv
  obtain ⟨b, off, cap, hv0, hcap, hblt, hcell⟩ := nm_open hv h0
  subst hv0
  clear hv
  have HC := Lib.hid hcell
  have HPOS := Lib.hid (put_pos l x)
  have HST := Lib.hid (pos_step l x)
  have hple := pos_le l x
  generalize posN l x = K at HPOS HST hple
  obtain ⟨i0, hi, hz0, hz1, hz2⟩ := info_parts Try.infoName
  have HNEWS : Hid (∀ w' : World, Below w.heap.size w w' → ∀ p q, p + q ≤ l.length → ∀ j u, ((((l.drop p).take q).map nmCells).flatten)[j]? = some u → w'.cell? ((⟨b, off + p * 3, none⟩ : Addr).add j) = some u) := Lib.hid (fun w' hb p q hq => rows_news (fun i hi => ⟨(hb.cell (p := ⟨b, off + i * 3, none⟩) hblt).trans (hcell i hi).1, (hb.cell (p := ⟨b, off + i * 3 + 1, none⟩) hblt).trans (hcell i hi).2.1, (hb.cell (p := ⟨b, off + i * 3 + 2, none⟩) hblt).trans (hcell i hi).2.2⟩) p q hq)
  clear hcell
  unfold nmCells
  go_enter Try.func32, Try.ntmps32
  go_wp2
  obtain ⟨W, hW⟩ : ∃ W, w.alloc (.cells #[.string ⟨x.nm.toArray⟩, .int .i64 x.kd, .int .i64 x.nu] 46) = W := ⟨_, rfl⟩
  have HB : Hid (Below w.heap.size w W) := Lib.hid (by rw [← hW]; exact bl_a (Below.refl _ _) _)
  have HK : Hid (BK W w.heap.size [.string ⟨x.nm.toArray⟩, .int .i64 x.kd, .int .i64 x.nu] 46) := Lib.hid (by rw [← hW]; exact BK.new w _ _)
  rw [hW]
  clear hW
  go_loopw [5] (fun i wr => ∃ (p n : Nat), i = .int .i64 p ∧ p ≤ K ∧ wr = W.drewN n) (fun i _ => l.length - (intOf i).toNat)
  case atStart => exact ⟨0, 0, rfl, Nat.zero_le _, rfl⟩
  case round =>
    obtain ⟨p, n, rfl, hpK, rfl⟩ := hrel
    have x0 := HK.out.cell 0
    simp only [List.getElem?_cons_zero] at x0
    by_cases hlt : p < l.length
    · have e0 := (HB.out.cell (p := ⟨b, off + p * 3, none⟩) hblt).trans (HC.out p hlt).1
      have hst := HST.out p hlt hpK
      generalize l[p] = y at e0 hst
      have hk0 : (0 : Int) ≤ (p : Int) := by omega
      have hk1 : (p : Int) < (l.length : Int) := by omega
      cases hc : ltS y.nm x.nm with
      | true =>
        have hp1 := hst.1 hc
        have hbl : Op.bytesLess y.nm x.nm = true := hc
        clear hst hc
        go_wp2_with fail
        go_quiet (fail)
        go_wp2
        go_roundw
        case rel => exact ⟨p + 1, _, by go_num, hp1, rfl⟩
        case measure => simp [intOf]; omega
      | false =>
        have hp1 := Lib.hid (hst.2 hc)
        have hbl : Op.bytesLess y.nm x.nm = false := hc
        clear hst hc
        go_wp2_with fail
        go_quiet (fail)
        go_wp2_with (first
          | (at_builtin; have _tok := B6.out; refine wpList_append_own _ rfl _ _ 27 rfl (w.heap.size + 1) 46 i0 _ 3 32 Try.underlying27 hi hz0 hz1 hz2 rfl (by decide) v6 (0 + p + 1) _ rfl hown6 _ (l.length - p) _ (((l.drop p).take (l.length - p)).map nmCells).flatten rfl (by rw [nm_cells_len]; simp) (by first | exact HNEWS.out _ B6.out p (l.length - p) (by omega) | (intro j u h; rw [List.drop_eq_nil_of_le (by omega)] at h; simp at h)) (nm_cells_one _) (by unfold maxLen; omega) (by omega) (by omega) ?_; intro v7 w7 hown7 hgrow7 _)
          | (at_builtin; refine wpList_append_own _ rfl _ _ 27 rfl (w.heap.size + 1) 46 i0 _ 3 32 Try.underlying27 hi hz0 hz1 hz2 rfl (by decide) v5 (0 + p) _ rfl (hown5.alloc _) ⟨w5.heap.size, 0, none⟩ 1 1 [.string ⟨x.nm.toArray⟩, .int .i64 x.kd, .int .i64 x.nu] rfl rfl (news_lit w5 [.string ⟨x.nm.toArray⟩, .int .i64 x.kd, .int .i64 x.nu] _) (one_all rfl) (by unfold maxLen; omega) (by omega) (ow_le hs5 _) ?_; intro v6 w6 hown6 hgrow6 _; have B6 := Lib.hid (bl_g (bl_a B5.out _) hgrow6 (fun k hk => by have := ow_lo hown5 k hk; omega)); have hs6 : w.heap.size < w6.heap.size := by have := hgrow6.size; simp at this; omega)
          | (at_builtin; refine wpList_append_own _ rfl _ _ 27 rfl (w.heap.size + 1) 46 i0 _ 3 32 Try.underlying27 hi hz0 hz1 hz2 rfl (by decide) (.slice none 0 0) 0 [] rfl (World.ownsRow_nil _ _ _ _) ⟨b, off, none⟩ p _ (((l.drop 0).take p).map nmCells).flatten rfl (by rw [nm_cells_len]; simp; omega) (HNEWS.out _ (bl_drewN HB.out _) 0 p (by omega)) (nm_cells_one _) (by unfold maxLen; omega) (by omega) (by have := HK.out.lt; simp; omega) ?_; intro v5 w5 hown5 hgrow5 _; have k5 := (HK.out.drewN _).kept hgrow5 (fun j hj => by cases hj); have c50 := k5.cell 0; have c51 := k5.cell 1; have c52 := k5.cell 2; simp only [List.getElem?_cons_zero, List.getElem?_cons_succ] at c50 c51 c52; have hs5 := k5.lt; clear k5; have B5 := Lib.hid (bl_g (bl_drewN HB.out _) hgrow5 (fun k hk => by cases hk))))
        have hown8 : OwN w7 (w.heap.size + 1) v7 (putN l x) := by
          rw [HPOS.out, ← hp1.out]
          unfold OwN
          have e1 : (l.take p ++ x :: l.drop p).length = 0 + p + 1 + (l.length - p) := by simp; omega
          have e2 : ((l.take p ++ x :: l.drop p).map nmCells).flatten = [] ++ (((l.drop 0).take p).map nmCells).flatten ++ [.string ⟨x.nm.toArray⟩, .int .i64 x.kd, .int .i64 x.nu] ++ (((l.drop p).take (l.length - p)).map nmCells).flatten := by
            rw [List.take_of_length_le (l := l.drop p) (by simp <;> omega)]
            simp [nmCells]
          rw [e1, e2]; exact hown7
        have B7 := bl_g B6.out hgrow7 (fun k hk => by have := ow_lo hown6 k hk; omega)
        go_ret
        exact ⟨_, rfl, hown8, B7⟩
    · have hp1 : Hid (p = K) := Lib.hid (by omega)
      have hg : decide ((p : Int) < (l.length : Int)) = false := decide_eq_false (by omega)
      go_wp2_with fail
      go_quiet (fail)
      by_cases hpc : p = cap
      · subst hpc
        go_wp2_with (first
          | (at_builtin; have _tok := B6.out; refine wpList_append_own _ rfl _ _ 27 rfl (w.heap.size + 1) 46 i0 _ 3 32 Try.underlying27 hi hz0 hz1 hz2 rfl (by decide) v6 (0 + p + 1) _ rfl hown6 _ 0 _ (((l.drop p).take 0).map nmCells).flatten rfl (by rw [nm_cells_len]; simp) (by first | exact HNEWS.out _ B6.out p 0 (by omega) | (intro j u h; rw [List.drop_eq_nil_of_le (by omega)] at h; simp at h)) (nm_cells_one _) (by unfold maxLen; omega) (by omega) (by omega) ?_; intro v7 w7 hown7 hgrow7 _)
          | (at_builtin; refine wpList_append_own _ rfl _ _ 27 rfl (w.heap.size + 1) 46 i0 _ 3 32 Try.underlying27 hi hz0 hz1 hz2 rfl (by decide) v5 (0 + p) _ rfl (hown5.alloc _) ⟨w5.heap.size, 0, none⟩ 1 1 [.string ⟨x.nm.toArray⟩, .int .i64 x.kd, .int .i64 x.nu] rfl rfl (news_lit w5 [.string ⟨x.nm.toArray⟩, .int .i64 x.kd, .int .i64 x.nu] _) (one_all rfl) (by unfold maxLen; omega) (by omega) (ow_le hs5 _) ?_; intro v6 w6 hown6 hgrow6 _; have B6 := Lib.hid (bl_g (bl_a B5.out _) hgrow6 (fun k hk => by have := ow_lo hown5 k hk; omega)); have hs6 : w.heap.size < w6.heap.size := by have := hgrow6.size; simp at this; omega)
          | (at_builtin; refine wpList_append_own _ rfl _ _ 27 rfl (w.heap.size + 1) 46 i0 _ 3 32 Try.underlying27 hi hz0 hz1 hz2 rfl (by decide) (.slice none 0 0) 0 [] rfl (World.ownsRow_nil _ _ _ _) ⟨b, off, none⟩ p _ (((l.drop 0).take p).map nmCells).flatten rfl (by rw [nm_cells_len]; simp; omega) (HNEWS.out _ (bl_drewN HB.out _) 0 p (by omega)) (nm_cells_one _) (by unfold maxLen; omega) (by omega) (by have := HK.out.lt; simp; omega) ?_; intro v5 w5 hown5 hgrow5 _; have k5 := (HK.out.drewN _).kept hgrow5 (fun j hj => by cases hj); have c50 := k5.cell 0; have c51 := k5.cell 1; have c52 := k5.cell 2; simp only [List.getElem?_cons_zero, List.getElem?_cons_succ] at c50 c51 c52; have hs5 := k5.lt; clear k5; have B5 := Lib.hid (bl_g (bl_drewN HB.out _) hgrow5 (fun k hk => by cases hk))))
        have hown8 : OwN w7 (w.heap.size + 1) v7 (putN l x) := by
          rw [HPOS.out, ← hp1.out]
          unfold OwN
          have e1 : (l.take p ++ x :: l.drop p).length = 0 + p + 1 + 0 := by simp; omega
          have e2 : ((l.take p ++ x :: l.drop p).map nmCells).flatten = [] ++ (((l.drop 0).take p).map nmCells).flatten ++ [.string ⟨x.nm.toArray⟩, .int .i64 x.kd, .int .i64 x.nu] ++ (((l.drop p).take 0).map nmCells).flatten := by
            rw [List.take_of_length_le (l := l.drop p) (by simp <;> omega)]
            simp [nmCells]
          rw [e1, e2]; exact hown7
        have B7 := bl_g B6.out hgrow7 (fun k hk => by have := ow_lo hown6 k hk; omega)
        go_ret
        exact ⟨_, rfl, hown8, B7⟩
      · have hpc2 : ¬ cap = p := fun e => hpc e.symm
        go_wp2_with (first
          | (at_builtin; have _tok := B6.out; refine wpList_append_own _ rfl _ _ 27 rfl (w.heap.size + 1) 46 i0 _ 3 32 Try.underlying27 hi hz0 hz1 hz2 rfl (by decide) v6 (0 + p + 1) _ rfl hown6 _ (l.length - p) _ (((l.drop p).take (l.length - p)).map nmCells).flatten rfl (by rw [nm_cells_len]; simp) (by first | exact HNEWS.out _ B6.out p (l.length - p) (by omega) | (intro j u h; rw [List.drop_eq_nil_of_le (by omega)] at h; simp at h)) (nm_cells_one _) (by unfold maxLen; omega) (by omega) (by omega) ?_; intro v7 w7 hown7 hgrow7 _)
          | (at_builtin; refine wpList_append_own _ rfl _ _ 27 rfl (w.heap.size + 1) 46 i0 _ 3 32 Try.underlying27 hi hz0 hz1 hz2 rfl (by decide) v5 (0 + p) _ rfl (hown5.alloc _) ⟨w5.heap.size, 0, none⟩ 1 1 [.string ⟨x.nm.toArray⟩, .int .i64 x.kd, .int .i64 x.nu] rfl rfl (news_lit w5 [.string ⟨x.nm.toArray⟩, .int .i64 x.kd, .int .i64 x.nu] _) (one_all rfl) (by unfold maxLen; omega) (by omega) (ow_le hs5 _) ?_; intro v6 w6 hown6 hgrow6 _; have B6 := Lib.hid (bl_g (bl_a B5.out _) hgrow6 (fun k hk => by have := ow_lo hown5 k hk; omega)); have hs6 : w.heap.size < w6.heap.size := by have := hgrow6.size; simp at this; omega)
          | (at_builtin; refine wpList_append_own _ rfl _ _ 27 rfl (w.heap.size + 1) 46 i0 _ 3 32 Try.underlying27 hi hz0 hz1 hz2 rfl (by decide) (.slice none 0 0) 0 [] rfl (World.ownsRow_nil _ _ _ _) ⟨b, off, none⟩ p _ (((l.drop 0).take p).map nmCells).flatten rfl (by rw [nm_cells_len]; simp; omega) (HNEWS.out _ (bl_drewN HB.out _) 0 p (by omega)) (nm_cells_one _) (by unfold maxLen; omega) (by omega) (by have := HK.out.lt; simp; omega) ?_; intro v5 w5 hown5 hgrow5 _; have k5 := (HK.out.drewN _).kept hgrow5 (fun j hj => by cases hj); have c50 := k5.cell 0; have c51 := k5.cell 1; have c52 := k5.cell 2; simp only [List.getElem?_cons_zero, List.getElem?_cons_succ] at c50 c51 c52; have hs5 := k5.lt; clear k5; have B5 := Lib.hid (bl_g (bl_drewN HB.out _) hgrow5 (fun k hk => by cases hk))))
        have hown8 : OwN w7 (w.heap.size + 1) v7 (putN l x) := by
          rw [HPOS.out, ← hp1.out]
          unfold OwN
          have e1 : (l.take p ++ x :: l.drop p).length = 0 + p + 1 + (l.length - p) := by simp; omega
          have e2 : ((l.take p ++ x :: l.drop p).map nmCells).flatten = [] ++ (((l.drop 0).take p).map nmCells).flatten ++ [.string ⟨x.nm.toArray⟩, .int .i64 x.kd, .int .i64 x.nu] ++ (((l.drop p).take (l.length - p)).map nmCells).flatten := by
            rw [List.take_of_length_le (l := l.drop p) (by simp <;> omega)]
            simp [nmCells]
          rw [e1, e2]; exact hown7
        have B7 := bl_g B6.out hgrow7 (fun k hk => by have := ow_lo hown6 k hk; omega)
        go_ret
        exact ⟨_, rfl, hown8, B7⟩
end Go.Proofs.Ytdommneciojiaaa
