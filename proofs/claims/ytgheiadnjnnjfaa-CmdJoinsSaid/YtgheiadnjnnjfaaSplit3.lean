/- Contract of cmd.Split: the parts of a line. -/
import Derived.Test.YtgheiadnjnnjfaaSplit2
namespace Go.Proofs.Ytgheiadnjnnjfaa
open Go.RowKit Go.PlainAid

theorem cmdSplit_long (s : ByteArray) (w : World) (hs : s.size ≤ 1000000) (hl : 256 < s.size) : Calls Try.prog 7 #[.string s] w fun e w' => ∃ v, e = .returned (.tuple #[v, .int .i64 (splitE s)]) ∧ LL w' v (splitL s) ∧ Below w.heap.size w w' := by
  have h1 : Hid (splitE s = 3) := Lib.hid (by simp [splitE]; omega)
  have h2 : Hid (splitL s = []) := Lib.hid (by simp [splitL]; omega)
  go_enter Try.func7, Try.ntmps7
  go_wp2
  go_ret2
  refine ⟨.slice none 0 0, ?_, ?_, Below.refl _ _⟩
  · rw [h1.out]; rfl
  · rw [h2.out]; exact ⟨[], SL.nil _ _ _, rfl, fun i h => by cases h⟩

theorem heap_new (w : World) (o : Obj) : (w.alloc o).heap[w.heap.size]? = some o := by
  show (w.heap.push o)[w.heap.size]? = _
  simp

theorem St.start (w w1 : World) (tll tl te : TypeId) (hb : Below (w.heap.size + 2) ((w.alloc (.cells #[.slice none 0 0] tll)).alloc (.cells #[.slice none 0 0] tl)) w1) :
    St w1 tll tl te w1.heap.size w.heap.size (w.heap.size + 1) (.slice none 0 0) (.slice none 0 0) [] [] [] w1.heap.size := by
  have hs := hb.size
  simp only [World.size_alloc] at hs
  refine ⟨?_, ?_, Core.start _ _ _ (Nat.le_refl _), by omega, by omega, by omega⟩
  · rw [hb.block _ (by omega), Below.heap_alloc _ _ _ (by rw [World.size_alloc]; omega)]; exact heap_new _ _
  · rw [hb.block _ (by omega)]
    have := heap_new (w.alloc (.cells #[.slice none 0 0] tll)) (.cells #[.slice none 0 0] tl)
    rw [World.size_alloc] at this; exact this
theorem cells_at' {w w1 : World} {tll tl te : TypeId} {base bo bp : Nat} {vo vp : Value} {ls : List (List ByteArray)} {cur : List ByteArray} {vs : List Value} {B : Nat} {o : Obj} {row : Option Nat} (h : St w tll tl te base bo bp vo vp ls cur vs B) (hg : (w.alloc o).grownBy w1 row) (hb : ∀ k, row = some k → base ≤ k) :
    w1.cell? ⟨bp, 0, none⟩ = some vp ∧ w1.frozen? ⟨bp, 0, none⟩ = false := by
  have h2 := h.kept (World.grownBy_alloc w o none)
  have hp : w1.heap[bp]? = some (.cells #[vp] tl (0, 0)) := by rw [hg.block bp (lt_of_block h2.part) (fun e => by have := hb _ e.symm; have := h.lp; omega)]; exact h2.part
  exact ⟨cell_of_one hp, free_of_one hp⟩
theorem flush_len (ls : List (List ByteArray)) (cur : List ByteArray) {k : Nat} (h1 : ls.length ≤ k) : (ls ++ flushL cur).length ≤ k + 1 := by
  unfold flushL; split <;> simp <;> omega
theorem flush_all {ls : List (List ByteArray)} {cur : List ByteArray} {n : Nat} (h : ∀ l ∈ ls, l.length ≤ n) (hc : cur.length ≤ n) : ∀ l ∈ ls ++ flushL cur, l.length ≤ n := by
  unfold flushL
  split
  · simpa using h
  · exact len_snoc h hc
theorem parts_go2 (l : List ByteArray) (k : Nat) (h : k < l.length) (ls : List (List ByteArray)) (cur : List ByteArray) {P : List (List ByteArray)} (hp : ls ++ partsG (l.drop k) cur = P) :
    (isSep l[k] = true → (ls ++ flushL cur) ++ partsG (l.drop (k + 1)) [] = P) ∧ (isSep l[k] = false → ls ++ partsG (l.drop (k + 1)) (cur ++ [l[k]]) = P) := by
  rw [List.drop_eq_getElem_cons h, partsG] at hp
  refine ⟨fun h1 => ?_, fun h1 => ?_⟩
  · rw [if_pos h1] at hp; rw [List.append_assoc]; exact hp
  · rw [h1] at hp; exact hp

set_option maxHeartbeats 3200000 in
theorem cmdSplit_short (s : ByteArray) (w : World) (hl : ¬ 256 < s.size) : Calls Try.prog 7 #[.string s] w fun e w' => ∃ v, e = .returned (.tuple #[v, .int .i64 (splitE s)]) ∧ LL w' v (splitL s) ∧ Below w.heap.size w w' := by
  obtain ⟨i0, hi, hz0, hz1, hz2⟩ := info_parts Try.infoS
  have hwl := wordsS_len s
  go_enter Try.func7, Try.ntmps7
  go_wp2_with (go_at_call 15; refine (letWords s _ (by omega)).mono ?_; rintro e w1 ⟨v1, rfl, hown1, hlen1, hb1⟩; obtain ⟨a1, c1, hv1⟩ := own_shape hown1; subst hv1)
  rw [World.size_alloc, World.size_alloc] at hown1 hb1
  have HST := Lib.hid (St.start w w1 23 29 9 hb1)
  have hsz : w.heap.size + 2 ≤ w1.heap.size := by have := hb1.size; simp only [World.size_alloc] at this; omega
  have HB0 : Hid (Below w.heap.size w w1) := Lib.hid ((((Below.refl _ w).alloc (Nat.le_refl _) _).alloc (by rw [World.size_alloc]; omega) _).trans (hb1.mono (by omega)))
  obtain ⟨W, hW⟩ : ∃ W, wordsS s = W := ⟨_, rfl⟩
  rw [hW] at hown1 hlen1 hwl
  rw [hW]
  have HW := Lib.hid hW
  have HOWN := Lib.hid hown1
  clear hW hown1 hb1
  go_loopw [16] (fun i wr => ∃ (k : Nat) (ls : List (List ByteArray)) (cur : List ByteArray) (vs : List Value) (B : Nat) (vo vp : Value), k ≤ W.length ∧ i = .int .i64 k ∧ Hid (St wr 23 29 9 w1.heap.size w.heap.size (w.heap.size + 1) vo vp ls cur vs B) ∧ Hid (ls ++ partsG (W.drop k) cur = parts W) ∧ cur.length ≤ k ∧ ls.length ≤ k ∧ Hid (∀ l ∈ ls, l.length ≤ 300) ∧ Hid (Kp w1.heap.size w.heap.size (w.heap.size + 1) w1 wr)) (fun i _ => W.length - (intOf i).toNat)
  case atStart => exact ⟨0, [], [], [], _, _, _, Nat.zero_le _, rfl, HST.out, rfl, Nat.le_refl _, Nat.le_refl _, Lib.hid (fun l h => by cases h), Kp.refl _ _ _ _⟩
  case round =>
    obtain ⟨k, ls, cur, vs, B, vo, vp, hk, rfl, hst, hp, hcl, hll, hlb, hkp⟩ := hrel
    have hco := cell_of_one hst.out.out
    have hcp := cell_of_one hst.out.part
    have hfp := free_of_one hst.out.part
    obtain ⟨ap, cp, hvp⟩ := own_shape hst.out.core.2.2.2.1
    subst hvp
    by_cases hlt : k < W.length
    · obtain ⟨g, cg, hv, hglt, hcell⟩ := own_head HOWN.out (by omega)
      have hv' : a1 = some ⟨g, 0, none⟩ := by simpa using (Value.slice.inj hv).1
      subst hv'
      have hg2 : w.heap.size + 2 ≤ g := (HOWN.out.lt g rfl).1
      have hx0 := hcell k (by simpa using hlt)
      rw [List.getElem_map] at hx0
      have hx := (hkp.out.cell (i := k) hglt (by omega) (by omega)).trans hx0
      have HGO := Lib.hid (parts_go2 W k hlt ls cur hp.out)
      clear hcell hx0 hv
      generalize W[k] = x at hx HGO
      have hb3 := len_bd (n := cur.length) (by omega)
      cases h46 : (x.toList == [46]) with
      | true =>
        have hP := Lib.hid (HGO.out.1 (isSep_dot h46))
        go_wp2_with (go_at_call 14; refine (flush_any _ w1.heap.size _ _ vo _ ls cur vs B hst.out (by omega)).mono ?_; rintro e w3 ⟨rfl, ⟨vo3, vs3, B3, hst3⟩, hkp3⟩)
        go_roundw
        case rel => exact ⟨k + 1, ls ++ flushL cur, [], vs3, B3, vo3, _, by omega, by go_num, hst3, hP, Nat.zero_le _, flush_len _ _ hll, Lib.hid (flush_all hlb.out (by omega)), hkp.out.trans hkp3⟩
        case measure => simp [intOf]; omega
      | false =>
        cases hth : (x.toList == [116, 104, 101, 110]) with
        | true =>
          have hP := Lib.hid (HGO.out.1 (isSep_then hth))
          go_wp2_with (go_at_call 14; refine (flush_any _ w1.heap.size _ _ vo _ ls cur vs B hst.out (by omega)).mono ?_; rintro e w3 ⟨rfl, ⟨vo3, vs3, B3, hst3⟩, hkp3⟩)
          go_roundw
          case rel => exact ⟨k + 1, ls ++ flushL cur, [], vs3, B3, vo3, _, by omega, by go_num, hst3, hP, Nat.zero_le _, flush_len _ _ hll, Lib.hid (flush_all hlb.out (by omega)), hkp.out.trans hkp3⟩
          case measure => simp [intOf]; omega
        | false =>
          have hP := Lib.hid (HGO.out.2 (isSep_no h46 hth))
          go_wp2_with (at_builtin; refine wpList_append_own _ rfl _ _ 29 rfl B 9 i0 (.string ByteArray.empty) 1 16 Try.underlying29 hi hz0 hz1 hz2 rfl (by decide) _ _ _ rfl (hst.out.core.2.2.2.1.alloc _) ⟨wr.heap.size, 0, none⟩ 1 1 [.string x] rfl rfl (cell_one_new _ _ _) (one_str _) hb3.1 hb3.2.1 (le_alloc hst.out.core.2.1 _) ?_; intro v3 w3 hown3 hgrow3 _; obtain ⟨a3, c3, hv3⟩ := own_shape hown3; subst hv3; have hst3 := Lib.hid (St.push (by decide) (hst.out.kept (World.grownBy_alloc _ _ none)) hgrow3 hown3); have hlo := fun k h => Nat.le_trans hst.out.core.1 (own_lt hst.out.core.2.2.2.1 k h); have hk3 := Lib.hid (hkp.out.trans (Kp.below (((Below.refl _ wr).alloc (Nat.le_trans hst.out.core.1 hst.out.core.2.1) _).grown hgrow3 (le_alloc (Nat.le_trans hst.out.core.1 hst.out.core.2.1) _) hlo))); have hh3 := cells_at' hst.out hgrow3 hlo; have h31 := hh3.1; have h32 := hh3.2; clear hh3 hown3 hgrow3 hlo)
          go_roundw
          case rel => exact ⟨k + 1, ls, cur ++ [x], vs, B, vo, _, by omega, by go_num, hst3, hP, by simp; omega, by omega, hlb, hk3.out.trans (Kp.set w3 _ (.inr rfl) _)⟩
          case measure => simp [intOf]; omega
    · have hkN : k = W.length := by omega
      have hpe : Hid (ls ++ flushL cur = parts W) := Lib.hid (by
        have := hp.out
        rw [List.drop_eq_nil_of_le (by omega), partsG] at this
        exact this)
      have hfl := flush_len ls cur hll
      have hlb2 := Lib.hid (flush_all hlb.out (show cur.length ≤ 300 by omega))
      have hs256 : s.size ≤ 256 := by omega
      have HKN := Lib.hid hkN
      clear hkN
      obtain ⟨LS, hLS⟩ : ∃ LS, ls ++ flushL cur = LS := ⟨_, rfl⟩
      rw [hLS] at hpe hfl hlb2
      have HLS := Lib.hid hLS
      clear hLS
      by_cases h32 : 32 < LS.length
      · go_wp2_with (go_at_call 14; refine (flush_any _ w1.heap.size _ _ vo _ ls cur vs B hst.out (by omega)).mono ?_; rintro e w3 ⟨rfl, ⟨vo3, vs3, B3, hst3⟩, hkp3⟩; rw [HLS.out] at hst3; obtain ⟨a3, c3, hv3⟩ := own_shape hst3.core.2.2.1; subst hv3; have hco3 := cell_of_one hst3.out; have HS3 := Lib.hid hst3; have HK3 := Lib.hid hkp3; clear hst3 hkp3)
        go_ret2
        refine ⟨.slice none 0 0, ?_, ?_, ?_⟩
        · have : splitE s = 7 := by rw [splitE, if_pos hs256, if_neg (by rw [HW.out, ← hpe.out]; omega)]
          rw [this]; rfl
        · have : splitL s = [] := by rw [splitL, if_pos hs256, if_neg (by rw [HW.out, ← hpe.out]; omega)]
          rw [this]; exact ⟨[], SL.nil _ _ _, rfl, fun i h => by cases h⟩
        · exact HB0.out.trans ((hkp.out.trans HK3.out).toBelow (by omega) (Nat.le_refl _) (by omega))
      · go_wp2_with (go_at_call 14; refine (flush_any _ w1.heap.size _ _ vo _ ls cur vs B hst.out (by omega)).mono ?_; rintro e w3 ⟨rfl, ⟨vo3, vs3, B3, hst3⟩, hkp3⟩; rw [HLS.out] at hst3; obtain ⟨a3, c3, hv3⟩ := own_shape hst3.core.2.2.1; subst hv3; have hco3 := cell_of_one hst3.out; have HS3 := Lib.hid hst3; have HK3 := Lib.hid hkp3; clear hst3 hkp3)
        go_ret2
        refine ⟨.slice a3 LS.length c3, ?_, ?_, ?_⟩
        · have : splitE s = 0 := by rw [splitE, if_pos hs256, if_pos (by rw [HW.out, ← hpe.out]; omega)]
          rw [this]; rfl
        · have : splitL s = LS := by rw [splitL, if_pos hs256, if_pos (by rw [HW.out, ← hpe.out]; omega), HW.out]; exact hpe.out.symm
          rw [this]; exact Core.read HS3.out.core (by unfold maxLen; omega) (fun l hl => by have := hlb2.out l hl; unfold maxLen; omega)
        · exact HB0.out.trans ((hkp.out.trans HK3.out).toBelow (by omega) (Nat.le_refl _) (by omega))

theorem cmdSplit (s : ByteArray) (w : World) (hs : s.size ≤ 1000000) : Calls Try.prog 7 #[.string s] w fun e w' => ∃ v, e = .returned (.tuple #[v, .int .i64 (splitE s)]) ∧ LL w' v (splitL s) ∧ Below w.heap.size w w' := by
  by_cases h : 256 < s.size
  · exact cmdSplit_long s w hs h
  · exact cmdSplit_short s w h
end Go.Proofs.Ytgheiadnjnnjfaa
