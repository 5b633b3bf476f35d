/- Contract of clewref44.Wrap. -/
import Derived.Test.YtfnadieccdgnnaaDoorOutRef2
import Derived.Test.YtfnadieccdgnnaaDoorAppend
import Derived.StillTailTactics
import Derived.Deep.RegionHeld3
import Derived.Deep.AppendLies
namespace Go.Proofs.YtfnadieccdgnnaaDoor
open Go.RowKit Go.PlainAid
set_option linter.unusedVariables false
set_option linter.unusedSimpArgs false

def sumO : List (List UInt8) → Nat
  | [] => 0
  | p :: ps => p.length + sumO ps
theorem put_len (n : Nat) (st : List (List UInt8) × List UInt8) (w : List UInt8) (h : w ≠ []) : (putO n st w).1.length ≤ st.1.length + w.length := by
  have h1 := chop_len n _ w (Nat.le_refl _)
  have h2 : 1 ≤ (chopL n w).2.length := by
    have := chop_ne (n := n) _ w (Nat.le_refl _) h
    cases e : (chopL n w).2 with
    | nil => exact absurd e this
    | cons a b => simp
  unfold putO
  split
  · simp
  · split
    · simp; omega
    · simp; omega
theorem fold_len (n : Nat) : ∀ (ws : List (List UInt8)) (st : List (List UInt8) × List UInt8), (∀ w ∈ ws, w ≠ []) → (foldO n ws st).1.length ≤ st.1.length + sumO ws
  | [], st, _ => by simp [foldO, sumO]
  | w :: ws, st, h => by
    have h1 := put_len n st w (h w (List.mem_cons_self ..))
    have h2 := fold_len n ws (putO n st w) (fun x hx => h x (List.mem_cons_of_mem _ hx))
    show (foldO n ws (putO n st w)).1.length ≤ _
    rw [sumO]; omega
theorem sum_words : ∀ P : List (List UInt8), sumO (P.filter (fun w => !w.isEmpty)) ≤ totO P
  | [] => by simp [sumO]
  | p :: ps => by
    have := sum_words ps
    rw [List.filter_cons, totO]
    split
    · rw [sumO]; omega
    · omega
theorem par_len (n : Nat) (l : List UInt8) : (parO n (wordsO l)).length ≤ l.length + 2 := by
  have h1 := fold_len n (wordsO l) ([], []) (words_ne l)
  have h2 := sum_words (spl 32 l [])
  rw [tot_spl] at h2
  unfold parO
  unfold wordsO at h1 ⊢
  simp at h1 h2 ⊢; omega
theorem tot_dropLast : ∀ P : List (List UInt8), totO P.dropLast ≤ totO P
  | [] => by simp
  | [a] => by simp [totO]
  | a :: b :: t => by
    have := tot_dropLast (b :: t)
    rw [List.dropLast_cons_cons, totO, totO]; omega
theorem tot_lines (l : List UInt8) : totO (linesO l) ≤ l.length + 1 := by
  have h := tot_spl 10 l []
  have h2 := tot_dropLast (spl 10 l [])
  unfold linesO
  split
  · simp at h; omega
  · simp at h; omega

/-- The lines of the first k lines. -/
def upTo (n : Nat) (LL : List (List UInt8)) (k : Nat) : List (List UInt8) := (LL.take k).flatMap fun x => parO n (wordsO x)
theorem upTo_succ (n : Nat) (LL : List (List UInt8)) (k : Nat) (h : k < LL.length) : upTo n LL (k + 1) = upTo n LL k ++ parO n (wordsO LL[k]) := by
  unfold upTo; rw [List.take_succ_eq_append_getElem h, List.flatMap_append]; simp
theorem upTo_all (n : Nat) (l : List UInt8) (k : Nat) (h : (linesO l).length ≤ k) : upTo n (linesO l) k = wrapO n l := by
  unfold upTo wrapO; rw [List.take_of_length_le h]
theorem wide_same (n : Int) (w : World) : Calls Tryd.prog 20 #[.int .i64 n] w fun e w' => e = .returned (.int .i64 (wideN n)) ∧ w' = w :=
  (refWide n w).mono fun _ _ ⟨a, b⟩ => ⟨a, b.symm⟩

/-- Wrap's loop over lines that are there. -/
structure WrS (w1 wr : World) (v : Value) (out : List (List UInt8)) : Prop where
  own : OwS wr w1.heap.size v out
  bel : Below w1.heap.size w1 wr

theorem tot_mem {x : List UInt8} : ∀ {L : List (List UInt8)}, x ∈ L → x.length + 1 ≤ totO L
  | p :: ps, h => by
    rcases List.mem_cons.1 h with e | e
    · rw [totO, e]; omega
    · have := tot_mem e; rw [totO]; omega
theorem tot_length : ∀ (L : List (List UInt8)), L.length ≤ totO L
  | [] => by simp
  | p :: ps => by have := tot_length ps; rw [totO]; simp; omega

set_option maxRecDepth 100000 in
set_option maxHeartbeats 8000000 in
theorem refWrap44 (s : ByteArray) (width : Int) (w : World) (hs : s.size ≤ 100000) (hw0 : -9223372036854775808 ≤ width) (hw1 : width ≤ 9223372036854775807) :
    Calls Tryd.prog 10 #[.string s, .int .i64 width] w fun e w' => ∃ v, e = .returned v ∧ OwS w' w.heap.size v (wrapO (wideN width) s.data.toList) ∧ Below w.heap.size w w' := by
  obtain ⟨i0, hi, hz0, hz1, hz2⟩ := info_parts Tryd.infoStr
  have hwb := wide_bd width
  by_cases hse : s.size = 0
  · have hl : s.data.toList = [] := List.length_eq_zero_iff.1 (by rw [by_len]; exact hse)
    have hsb : s = mkB [] := by rw [← hl]; exact (mkB_of s).symm
    have hres : Hid (wrapO (wideN width) (mkB []).data.toList = []) := Lib.hid (by unfold wrapO; show (linesO []).flatMap _ = _; rw [lines_nil]; rfl)
    have ht := mkB_toList []
    subst hsb
    clear hl hse
    go_enter Tryd.func10, Tryd.ntmps10
    go_wp2
    go_ret
    exact ⟨_, rfl, by rw [hres.out]; exact OwS.nil _ _, Below.refl _ _⟩
  · obtain ⟨P, hP⟩ : ∃ P, spl 10 s.data.toList [] = P := ⟨_, rfl⟩
    have hPne : P ≠ [] := by rw [← hP]; exact spl_ne _ _ _
    have hPl : P.length ≤ s.size + 1 := by rw [← hP]; have := spl_len 10 s.data.toList []; simp at this; exact this
    have hPp : 0 < P.length := List.length_pos_iff.2 hPne
    have hsp := Lib.hid (fun w => refSplit44 s 10 w hs)
    rw [hP] at hsp
    have hlast : linesO s.data.toList = if P[P.length - 1] = [] then P.dropLast else P := by
      unfold linesO
      simp only [hP]
      rw [List.getLast_eq_getElem]
    have HLast := Lib.hid hlast
    have hst : s.toList.isEmpty = false := by
      rw [Lib.toList_data]
      cases e : s.data.toList with
      | nil => have := by_len s; rw [e] at this; simp at this; omega
      | cons a b => rfl
    have hst2 : ¬ s.toList = [] := by
      intro e; rw [e] at hst; simp at hst
    clear hP hPne hlast hse
    go_enter Tryd.func10, Tryd.ntmps10
    go_wp2_with fail
    refine (hsp.out _).mono ?_
    rintro e w1 ⟨vl, rfl, hol, hb1⟩
    have HB1 := Lib.hid hb1
    obtain ⟨b, c, hvl, hblt, hcell, hPc⟩ : ∃ b c, vl = .slice (some ⟨b, 0, none⟩) P.length c ∧ b < w1.heap.size ∧ (∀ i (h : i < P.length), w1.cell? ⟨b, i, none⟩ = some (strV P[i])) ∧ P.length ≤ c := by
      rcases hol.2 with ⟨_, h0⟩ | ⟨g, cap, cur, e, h1, h2, h3, _⟩
      · omega
      · subst e
        refine ⟨g, cap, rfl, lt_of_block h2, fun i h => ?_, h3⟩
        have := hol.cellAt i (by omega)
        rw [this, List.getElem?_map, List.getElem?_eq_getElem h]; rfl
    subst hvl
    have hcl := hcell (P.length - 1) (by omega)
    unfold strV at hcl
    obtain ⟨y, hy⟩ : ∃ y, P[P.length - 1] = y := ⟨_, rfl⟩
    rw [hy] at hcl
    have hxt := mkB_toList y
    have HCell := Lib.hid hcell
    have htl := tot_lines s.data.toList
    rw [by_len] at htl
    clear hol hb1 hcell
    by_cases hxe : y = []
    · have hie : y.isEmpty = true := by rw [hxe]; rfl
      obtain ⟨LL, hLL⟩ : ∃ LL, P.dropLast = LL := ⟨_, rfl⟩
      have hlin : Hid (linesO s.data.toList = LL) := Lib.hid (by rw [HLast.out, if_pos (hy.trans hxe), hLL])
      have hlen : P.length - 1 = LL.length := by rw [← hLL]; simp
      have HC2 : Hid (∀ i (h : i < LL.length), w1.cell? ⟨b, i, none⟩ = some (.string (mkB LL[i]))) := Lib.hid (fun i h => by
        have := HCell.out i (by omega)
        subst hLL
        rw [List.getElem_dropLast]; exact this)
      rw [hlin.out] at htl
      have hPi : (P.length : Int) - 1 = (LL.length : Int) := by omega
      have hPc1 : (P.length : Int) - 1 ≤ (c : Int) := by omega
      have hPp1 : (1 : Int) ≤ (P.length : Int) := by omega
      have HLen := Lib.hid hlen
      clear hLL hlen hPi hy
      clear hxe
      go_wp2_with fail
      rw [HLen.out]
      have hLl := tot_length LL
      go_loopw [5, 7] (fun v p wr => ∃ (k : Nat) (out : List (List UInt8)), p = .int .i64 k ∧ k ≤ LL.length ∧ out.length ≤ k * 100003 ∧ Hid (PaS w1 wr v out) ∧ Hid (out = upTo (wideN width) LL k)) (fun _ p _ => LL.length - (intOf p).toNat)
      case atStart => exact ⟨0, [], rfl, by omega, by simp, Lib.hid ⟨OwS.nil _ _, Below.refl _ _⟩, Lib.hid rfl⟩
      case round =>
        obtain ⟨k, out, rfl, hk, hol, hS, hO⟩ := hrel
        obtain ⟨va, vc, hv⟩ := ow_shape hS.out.own
        subst hv
        by_cases hkL : k < LL.length
        · have hcx : wr.cell? ⟨b, k, none⟩ = some (.string (mkB LL[k])) := by rw [hS.out.bel.cell (p := ⟨b, k, none⟩) hblt]; exact HC2.out k hkL
          have hup := upTo_succ (wideN width) LL k hkL
          obtain ⟨x, hx⟩ : ∃ x, LL[k] = x := ⟨_, rfl⟩
          have hxm := tot_mem (x := x) (L := LL) (by rw [← hx]; exact List.getElem_mem hkL)
          rw [hx] at hcx hup
          have hxs : x.length ≤ 100000 := by omega
          have HPar := Lib.hid (fun w => refPar44 (mkB x) (wideN width) w (by rw [mkB_size]; exact hxs) hwb.1 hwb.2)
          have hpl := par_len (wideN width) x
          have HUP := Lib.hid hup
          have hki : (k : Int) < (LL.length : Int) := by omega
          have hk0 : (0 : Int) ≤ (k : Int) := by omega
          obtain ⟨Y, hY⟩ : ∃ Y, parO (wideN width) (wordsO x) = Y := ⟨_, rfl⟩
          have HY := Lib.hid hY
          rw [hY] at hpl HUP
          have hbw : b < wr.heap.size := Nat.lt_of_lt_of_le hblt hS.out.bel.size
          have hbmm : out.length + (Y.map strV).length ≤ maxLen ∧ (out.length + (Y.map strV).length) * 16 ≤ 140737488355328 := by rw [List.length_map]; unfold maxLen; omega
          have hYm : Y.length ≤ maxLen := by unfold maxLen; omega
          have hone : ∀ u ∈ Y.map strV, u.oneCell' = true := fun u hu => by obtain ⟨z, _, rfl⟩ := List.mem_map.1 hu; rfl
          have hsz3 := hS.out.bel.size
          have hnb : ∀ g, (Value.slice va out.length vc).ownBlock = some g → b ≠ g := fun g hg => by have := ow_lo hS.out.own g hg; omega
          clear hup hx hxm hY
          go_wp2_with fail
          go_region_held3 (fun w' => w'.cell? ⟨b, k, none⟩ = some (.string (mkB x)))
            (first
              | exact hcx
              | exact (hb4.cell (p := ⟨b, k, none⟩) hbw).trans hcx
              | exact (hgrow5.cell_far ⟨b, k, none⟩ (Nat.lt_of_lt_of_le hbw hb4.size) (fun e => hnb _ e.symm rfl)).trans ((hb4.cell (p := ⟨b, k, none⟩) hbw).trans hcx))
            ((first
              | (go_at_call 20; refine (wide_same width _).mono ?_; rintro e w2 ⟨rfl, rfl⟩)
              | (go_at_call 19; refine (HPar.out _).mono ?_; rintro e w4 ⟨v4, rfl, ho4, hb4⟩; replace ho4 : OwS w4 _ v4 Y := (by rw [← HY.out]; exact ho4); have hSL := ho4.sl hYm; have hown4 := ow_below (w := wr) hS.out.own ⟨hb4.os, hb4.tape, hb4.output, hb4.size, hb4.block⟩; have hsz4 := Nat.le_trans hsz3 hb4.size)
              | (refine step_append_SL rfl _ _ 24 rfl w1.heap.size 9 i0 (.string ByteArray.empty) 16 Tryd.underlying24 hi hz0 hz1 hz2 rfl _ out.length (out.map strV) rfl hown4 _ (Y.map strV) rfl hSL hone hbmm.1 hbmm.2 hsz4 ?_; intro v5 w5 hown5 hgrow5)))
          have hWn : Below wr.heap.size wr w4 := ⟨hb4.os, hb4.tape, hb4.output, hb4.size, hb4.block⟩
          have HS5 : Hid (PaS w1 w5 v5 (out ++ Y)) := Lib.hid ⟨by unfold OwS; simpa using hown5, bl_g (hS.out.bel.trans (hWn.mono hS.out.bel.size)) hgrow5 (ow_lo hS.out.own)⟩
          have HO5 : Hid (out ++ Y = upTo (wideN width) LL (k + 1)) := Lib.hid (by rw [HUP.out, ← hO.out])
          clear hown5 hgrow5 hSL hown4 hWn
          go_wp2
          go_roundw
          case rel => exact ⟨k + 1, out ++ Y, by go_num, hkL, by simp; omega, HS5, HO5⟩
          case measure => simp [intOf]; omega
        · have hw : Hid (out = wrapO (wideN width) s.data.toList) := Lib.hid (by
            rw [hO.out, ← hlin.out]
            exact upTo_all _ _ _ (by rw [hlin.out]; omega))
          have hkL' : ¬ (k : Int) < (LL.length : Int) := by omega
          go_wp2
          go_ret
          exact ⟨_, rfl, by rw [← hw.out]; exact ow_base' hS.out.own HB1.out.size, bl_then HB1.out hS.out.bel⟩
    · have hie : y.isEmpty = false := by cases h : y with | nil => exact absurd h hxe | cons a b => rfl
      have hlin : Hid (linesO s.data.toList = P) := Lib.hid (by rw [HLast.out, if_neg (by rw [hy]; exact hxe)])
      have HC2 : Hid (∀ i (h : i < P.length), w1.cell? ⟨b, i, none⟩ = some (.string (mkB P[i]))) := Lib.hid (fun i h => HCell.out i h)
      rw [hlin.out] at htl
      clear hy hxe
      go_wp2_with fail
      have hLl := tot_length P
      go_loopw [5, 7] (fun v p wr => ∃ (k : Nat) (out : List (List UInt8)), p = .int .i64 k ∧ k ≤ P.length ∧ out.length ≤ k * 100003 ∧ Hid (PaS w1 wr v out) ∧ Hid (out = upTo (wideN width) P k)) (fun _ p _ => P.length - (intOf p).toNat)
      case atStart => exact ⟨0, [], rfl, by omega, by simp, Lib.hid ⟨OwS.nil _ _, Below.refl _ _⟩, Lib.hid rfl⟩
      case round =>
        obtain ⟨k, out, rfl, hk, hol, hS, hO⟩ := hrel
        obtain ⟨va, vc, hv⟩ := ow_shape hS.out.own
        subst hv
        by_cases hkL : k < P.length
        · have hcx : wr.cell? ⟨b, k, none⟩ = some (.string (mkB P[k])) := by rw [hS.out.bel.cell (p := ⟨b, k, none⟩) hblt]; exact HC2.out k hkL
          have hup := upTo_succ (wideN width) P k hkL
          obtain ⟨x, hx⟩ : ∃ x, P[k] = x := ⟨_, rfl⟩
          have hxm := tot_mem (x := x) (L := P) (by rw [← hx]; exact List.getElem_mem hkL)
          rw [hx] at hcx hup
          have hxs : x.length ≤ 100000 := by omega
          have HPar := Lib.hid (fun w => refPar44 (mkB x) (wideN width) w (by rw [mkB_size]; exact hxs) hwb.1 hwb.2)
          have hpl := par_len (wideN width) x
          have HUP := Lib.hid hup
          have hki : (k : Int) < (P.length : Int) := by omega
          have hk0 : (0 : Int) ≤ (k : Int) := by omega
          obtain ⟨Y, hY⟩ : ∃ Y, parO (wideN width) (wordsO x) = Y := ⟨_, rfl⟩
          have HY := Lib.hid hY
          rw [hY] at hpl HUP
          have hbw : b < wr.heap.size := Nat.lt_of_lt_of_le hblt hS.out.bel.size
          have hbmm : out.length + (Y.map strV).length ≤ maxLen ∧ (out.length + (Y.map strV).length) * 16 ≤ 140737488355328 := by rw [List.length_map]; unfold maxLen; omega
          have hYm : Y.length ≤ maxLen := by unfold maxLen; omega
          have hone : ∀ u ∈ Y.map strV, u.oneCell' = true := fun u hu => by obtain ⟨z, _, rfl⟩ := List.mem_map.1 hu; rfl
          have hsz3 := hS.out.bel.size
          have hnb : ∀ g, (Value.slice va out.length vc).ownBlock = some g → b ≠ g := fun g hg => by have := ow_lo hS.out.own g hg; omega
          clear hup hx hxm hY
          go_wp2_with fail
          go_region_held3 (fun w' => w'.cell? ⟨b, k, none⟩ = some (.string (mkB x)))
            (first
              | exact hcx
              | exact (hb4.cell (p := ⟨b, k, none⟩) hbw).trans hcx
              | exact (hgrow5.cell_far ⟨b, k, none⟩ (Nat.lt_of_lt_of_le hbw hb4.size) (fun e => hnb _ e.symm rfl)).trans ((hb4.cell (p := ⟨b, k, none⟩) hbw).trans hcx))
            ((first
              | (go_at_call 20; refine (wide_same width _).mono ?_; rintro e w2 ⟨rfl, rfl⟩)
              | (go_at_call 19; refine (HPar.out _).mono ?_; rintro e w4 ⟨v4, rfl, ho4, hb4⟩; replace ho4 : OwS w4 _ v4 Y := (by rw [← HY.out]; exact ho4); have hSL := ho4.sl hYm; have hown4 := ow_below (w := wr) hS.out.own ⟨hb4.os, hb4.tape, hb4.output, hb4.size, hb4.block⟩; have hsz4 := Nat.le_trans hsz3 hb4.size)
              | (refine step_append_SL rfl _ _ 24 rfl w1.heap.size 9 i0 (.string ByteArray.empty) 16 Tryd.underlying24 hi hz0 hz1 hz2 rfl _ out.length (out.map strV) rfl hown4 _ (Y.map strV) rfl hSL hone hbmm.1 hbmm.2 hsz4 ?_; intro v5 w5 hown5 hgrow5)))
          have hWn : Below wr.heap.size wr w4 := ⟨hb4.os, hb4.tape, hb4.output, hb4.size, hb4.block⟩
          have HS5 : Hid (PaS w1 w5 v5 (out ++ Y)) := Lib.hid ⟨by unfold OwS; simpa using hown5, bl_g (hS.out.bel.trans (hWn.mono hS.out.bel.size)) hgrow5 (ow_lo hS.out.own)⟩
          have HO5 : Hid (out ++ Y = upTo (wideN width) P (k + 1)) := Lib.hid (by rw [HUP.out, ← hO.out])
          clear hown5 hgrow5 hSL hown4 hWn
          go_wp2
          go_roundw
          case rel => exact ⟨k + 1, out ++ Y, by go_num, hkL, by simp; omega, HS5, HO5⟩
          case measure => simp [intOf]; omega
        · have hw : Hid (out = wrapO (wideN width) s.data.toList) := Lib.hid (by
            rw [hO.out, ← hlin.out]
            exact upTo_all _ _ _ (by rw [hlin.out]; omega))
          have hkL' : ¬ (k : Int) < (P.length : Int) := by omega
          go_wp2
          go_ret
          exact ⟨_, rfl, by rw [← hw.out]; exact ow_base' hS.out.own HB1.out.size, bl_then HB1.out hS.out.bel⟩
end Go.Proofs.YtfnadieccdgnnaaDoor
