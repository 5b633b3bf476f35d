/- The walk of LexPlaces. -/
import Derived.Test.YtmelilppeikdiaaLaw09
import Derived.Test.YtmelilppeikdiaaPlacesPlain
import Derived.StillTailTactics
import Derived.IntWalk
namespace Go.Proofs.Ytmelilppeikdiaa
open Go.RowKit Go.PlainAid
set_option linter.unusedVariables false
set_option linter.unusedSimpArgs false

theorem lawFeeds (s : ByteArray) (w : World) (hs : s.size ≤ 1000000) : Calls Try.prog 16 #[.string s] w fun e w' => e = .returned (.int .i64 (ln s s.size - 1)) ∧ w = w' := by
  have hb := get_bt s
  go_enter Try.func16, Try.ntmps16
  go_wp2
  go_loop [3, 7] (fun n p => ∃ k : Nat, k ≤ s.size ∧ p = .int .i64 k ∧ n = .int .i64 (ln s k - 1)) (fun _ p => s.size - (intOf p).toNat)
  case atStart => exact ⟨0, by omega, rfl, rfl⟩
  case round =>
    obtain ⟨k, hk, rfl, rfl⟩ := hrel
    have hl := ln_bd s k
    by_cases hlt : k < s.size
    · by_cases h10 : bt s k = 10
      · have hL := Lib.hid (show ln s (k + 1) = ln s k + 1 by rw [ln, if_pos h10])
        have h10' : (bt s k == 10) = true := by simp [h10]
        clear h10
        go_wp2
        go_round
        case rel => exact ⟨k + 1, hlt, by go_num, by rw [hL.out]; go_num⟩
        case measure => simp [intOf]; omega
      · have hL := Lib.hid (show ln s (k + 1) = ln s k by rw [ln, if_neg h10])
        have h10' : (bt s k == 10) = false := by simp [h10]
        clear h10
        go_wp2
        go_round
        case rel => exact ⟨k + 1, hlt, by go_num, by rw [hL.out]⟩
        case measure => simp [intOf]; omega
    · have : k = s.size := by omega
      subst this
      go_wp2
      go_ret
      exact ⟨rfl, rfl⟩
theorem feeds_same (s : ByteArray) (w : World) (hs : s.size ≤ 1000000) : Calls Try.prog 16 #[.string s] w fun e w' => e = .returned (.int .i64 (ln s s.size - 1)) ∧ w' = w :=
  (lawFeeds s w hs).mono fun _ _ ⟨a, b⟩ => ⟨a, b.symm⟩

/-- What is known of each token of an answer without an error. -/
theorem places_facts {s : ByteArray} {L out : List TT} {q : Nat} (hL : L = out ++ [⟨endT, ln s q, cl s q⟩]) (hk : ∀ x ∈ out, x.t.kind ≠ 0) (hup : L.Pairwise before) :
    ∀ k (h : k < L.length), ((k + 1 ≠ L.length → L[k].t.kind ≠ 0) ∧ (k + 1 = L.length → L[k].t.kind = 0)) ∧ (0 < k → before (L[k - 1]'(by omega)) L[k]) := by
  intro k h
  refine ⟨⟨fun hn => ?_, fun hn => ?_⟩, fun h0 => (List.pairwise_iff_getElem.1 hup) (k - 1) k (by omega) h (by omega)⟩
  · subst hL
    have : k < out.length := by simp at h hn; omega
    rw [List.getElem_append_left this]
    exact hk _ (List.getElem_mem this)
  · subst hL
    have : k = out.length := by simp at h hn; omega
    subst this
    simp [endT]
theorem SLN.at {k : Nat} {w : World} {b off n c : Nat} {rows : List (List Value)} (h : SLN k w (.slice (some ⟨b, off, none⟩) n c) rows) :
    ∀ i j (h : i < rows.length), j < k → w.cell? ⟨b, off + i * k + j, none⟩ = rows[i][j]? := by
  intro i j hi hj
  obtain ⟨b', off', c', e, _, hc⟩ := h.open (by omega)
  simp only [Value.slice.injEq, Option.some.injEq, Addr.mk.injEq] at e
  obtain ⟨⟨rfl, rfl, _⟩, rfl, rfl⟩ := e
  exact hc i j hi hj
theorem SLN.lt_blk {k : Nat} {w : World} {b off n c : Nat} {rows : List (List Value)} (h : SLN k w (.slice (some ⟨b, off, none⟩) n c) rows) (hn : 0 < rows.length) : b < w.heap.size := by
  obtain ⟨b', off', c', e, hb, _⟩ := h.open hn
  simp only [Value.slice.injEq, Option.some.injEq, Addr.mk.injEq] at e
  obtain ⟨⟨rfl, rfl, _⟩, rfl, rfl⟩ := e
  exact hb

set_option maxRecDepth 100000 in
set_option maxHeartbeats 8000000 in
theorem walkPlaces (s : ByteArray) (m : Int) (w : World) (ws : s.size ≤ maxLen) (hm : w.cell? ⟨0, 0, none⟩ = some (.int .i64 m)) :
    Calls Try.prog 5 #[.string s] w fun e w' => e = .returned (.bool true) ∧ Below w.heap.size w w' := by
  unfold maxLen at ws
  have HM := Lib.hid hm
  clear hm
  by_cases hl : 600 < s.size
  · go_enter Try.func5, Try.ntmps5
    go_wp2_with (first | (go_at_call 8; refine (awake09 m _ HM.out).mono ?_; rintro e w1 ⟨rfl, hb1⟩; have HB1 := Lib.hid hb1; clear hb1))
    go_ret
    exact ⟨rfl, HB1.out⟩
  · have hA := Lib.hid (fun w h => lexAll_fits s m w (by omega) h)
    have hG := Lib.hid (allR_good s (by omega))
    generalize allR s = A at hA hG
    have hlb := ln_bd s s.size
    go_enter Try.func5, Try.ntmps5
    go_wp2_with fail
    refine (hA.out _ HM.out).mono ?_
    rintro e w1 ⟨v1, rfl, hv1, hb1⟩
    have HB1 := Lib.hid hb1
    have HV1 := Lib.hid hv1
    have HM1 : Hid (∀ n, ((w1.alloc (.cells #[.int .i64 A.err, .int .i64 A.fl, .int .i64 A.fc] 28)).drewN n).cell? ⟨0, 0, none⟩ = some (.int .i64 m)) := Lib.hid (fun n => hm_below HM.out (bl_drewN (bl_a hb1 _) n))
    clear hb1 hv1
    by_cases hE : A.err = 0
    · obtain ⟨out, q, hL, hk0, hup, hlen⟩ := hG.out.toks hE
      obtain ⟨z1, z2⟩ := hG.out.zero hE
      have hS0 := HV1.out
      obtain ⟨L, hLe⟩ : ∃ L, A.toks = L := ⟨_, rfl⟩
      rw [hLe] at hL hup hlen hS0
      obtain ⟨n, hn⟩ : ∃ n, L.length = n := ⟨_, rfl⟩
      have hrl : (tokRows L).length = n := by simp [tokRows, hn]
      have hn1 : out.length + 1 = n := by rw [← hn, hL]; simp
      have HP := Lib.hid (places_facts hL hk0 hup)
      have HRL := Lib.hid hrl
      have HN := Lib.hid hn
      obtain ⟨b, off, c, hv, _⟩ := hS0.open (by omega)
      rw [hrl] at hv
      subst hv
      have HS0 := Lib.hid hS0
      rw [hE, z1, z2] at HM1 ⊢
      clear hS0 hL hk0 hup hLe hrl hn hE z1 z2
      have hnm : n ≤ 16385 := by have := HN.out; omega
      have HB2 := Lib.hid (bl_a HB1.out (.cells #[.int .i64 0, .int .i64 0, .int .i64 0] 28))
      have HS2 := Lib.hid (HS0.out.below (one_alloc _ (.cells #[.int .i64 0, .int .i64 0, .int .i64 0] 28)))
      go_wp2_with fail
      go_loopw [58] (fun p wr => ∃ k : Nat, k ≤ n ∧ p = .int .i64 k ∧ Hid (Below w.heap.size w wr) ∧ Hid (SLN 5 wr (.slice (some ⟨b, off, none⟩) n c) (tokRows L))) (fun p _ => n - (intOf p).toNat)
      case atStart => exact ⟨0, by omega, rfl, HB2, HS2⟩
      case round =>
        obtain ⟨k, hk, rfl, hB, hS⟩ := hrel
        by_cases hkn : k < n
        · obtain ⟨f1, f2⟩ := HP.out k (by rw [HN.out]; exact hkn)
          have hcell := SLN.at hS.out
          have hblt := SLN.lt_blk hS.out (by rw [HRL.out]; omega)
          have hr : k < (tokRows L).length := by rw [HRL.out]; exact hkn
          have hx : (tokRows L)[k] = tokCells (L[k]'(by rw [HN.out]; exact hkn)) := by simp [tokRows]
          obtain ⟨x, hxe⟩ : ∃ x, (L[k]'(by rw [HN.out]; exact hkn)) = x := ⟨_, rfl⟩
          have a0 := hcell k 0 hr (by decide)
          have a1 := hcell k 1 hr (by decide)
          have a2 := hcell k 2 hr (by decide)
          have a3 := hcell k 3 hr (by decide)
          have a4 := hcell k 4 hr (by decide)
          rw [hx, hxe] at a0 a1 a2 a3 a4
          rw [hxe] at f1
          simp [tokCells] at a0 a1 a2 a3 a4
          obtain ⟨W, hW⟩ : ∃ W, wr.alloc (.cells #[.int .i64 x.t.kind, .string (mkB x.t.text), .int .i64 x.t.num, .int .i64 x.l, .int .i64 x.c] 33) = W := ⟨_, rfl⟩
          have HT : Hid (BK W wr.heap.size (tokCells x) 33) := Lib.hid (by rw [← hW]; exact BK.new wr (tokCells x) 33)
          have HBW : Hid (Below wr.heap.size wr W) := Lib.hid (by rw [← hW]; exact one_alloc _ _)
          have hcW := SLN.at (hS.out.below HBW.out)
          have t0 : W.cell? ⟨wr.heap.size, 0, none⟩ = some (.int .i64 x.t.kind) := HT.out.cell 0
          have t3 : W.cell? ⟨wr.heap.size, 3, none⟩ = some (.int .i64 x.l) := HT.out.cell 3
          have t4 : W.cell? ⟨wr.heap.size, 4, none⟩ = some (.int .i64 x.c) := HT.out.cell 4
          have HWE := Lib.hid hW
          clear hW
          have hki : (k : Int) < (n : Int) := by omega
          have hk00 : (0 : Int) ≤ (k : Int) := by omega
          have hw1 : IntKind.i64.wrap ((n : Int) - 1) = (n : Int) - 1 := IntWalk.i64_in _ (by omega)
          have hB1 : ∃ B, (x.t.kind == 0) = B ∧ ((k : Int) == (n : Int) - 1) = B := by
            by_cases hlast : k + 1 = n
            · exact ⟨true, by simp [f1.2 (by rw [HN.out]; exact hlast)], by simp; omega⟩
            · exact ⟨false, by simp [f1.1 (by rw [HN.out]; exact hlast)], by simp; omega⟩
          obtain ⟨B, hB1, hB2⟩ := hB1
          by_cases hz : k = 0
          · have hd : ¬ 0 < k := by omega
            clear f1 f2 hx hxe hr hcell hcW hz
            go_wp2_with fail
            rw [HWE.out]
            go_quiet (fail)
            go_wp2
            go_roundw
            case rel => exact ⟨k + 1, hkn, by go_num, Lib.hid (bl_drewN (bl_then hB.out HBW.out) _), Lib.hid (hS.out.below (bl_drewN HBW.out _))⟩
            case measure => simp [intOf]; omega
          · obtain ⟨j, hj⟩ : ∃ j, k - 1 = j := ⟨_, rfl⟩
            have f3 := f2 (by omega)
            have hrj : k - 1 < (tokRows L).length := by omega
            have hy : (tokRows L)[k - 1] = tokCells (L[k - 1]'(by rw [HN.out]; omega)) := by simp [tokRows]
            obtain ⟨y, hye⟩ : ∃ y, (L[k - 1]'(by rw [HN.out]; omega)) = y := ⟨_, rfl⟩
            have b3 := hcW (k - 1) 3 hrj (by decide)
            have b4 := hcW (k - 1) 4 hrj (by decide)
            rw [hy, hye] at b3 b4
            rw [hxe, hye] at f3
            simp [tokCells] at b3 b4
            have hd : 0 < k := by omega
            have hw2 : IntKind.i64.wrap ((k : Int) - 1) = (k : Int) - 1 := IntWalk.i64_in _ (by omega)
            have hw3 : (0 : Int) ≤ (k : Int) - 1 := by omega
            have hw4 : ((k : Int) - 1).toNat = k - 1 := by omega
            have hw5 : (k : Int) - 1 < (n : Int) := by omega
            have hd1 : decide (x.l < y.l) = false := by rcases f3 with h | ⟨h, _⟩ <;> (simp; omega)
            rcases Bool.eq_false_or_eq_true (x.l == y.l) with he | he
            · have hd2 : decide (x.c ≤ y.c) = false := by
                have he' : x.l = y.l := by simpa using he
                rcases f3 with h | ⟨_, h⟩
                · omega
                · simp; omega
              clear f1 f2 f3 hx hxe hr hcell hcW hz hj hrj hy hye
              go_wp2_with fail
              rw [HWE.out]
              go_quiet (fail)
              go_wp2
              go_roundw
              case rel => exact ⟨k + 1, hkn, by go_num, Lib.hid (bl_drewN (bl_then hB.out HBW.out) _), Lib.hid (hS.out.below (bl_drewN HBW.out _))⟩
              case measure => simp [intOf]; omega
            · clear f1 f2 f3 hx hxe hr hcell hcW hz hj hrj hy hye
              go_wp2_with fail
              rw [HWE.out]
              go_quiet (fail)
              go_wp2
              go_roundw
              case rel => exact ⟨k + 1, hkn, by go_num, Lib.hid (bl_drewN (bl_then hB.out HBW.out) _), Lib.hid (hS.out.below (bl_drewN HBW.out _))⟩
              case measure => simp [intOf]; omega
        · have hkn' : k = n := by omega
          subst hkn'
          have hm2 := hm_below HM.out hB.out
          have HM2 := Lib.hid hm2
          clear hm2
          go_wp2_with (first | (go_at_call 8; refine (awake09 m _ HM2.out).mono ?_; rintro e w4 ⟨rfl, hb4⟩; have HB4 := Lib.hid hb4; clear hb4))
          go_ret
          exact ⟨rfl, bl_then hB.out HB4.out⟩
    · obtain ⟨ht, h1, h2, h3, h4⟩ := hG.out.bad hE
      have hv := HV1.out
      rw [ht] at hv
      obtain ⟨a, c, rfl⟩ := hv.len
      simp only [tokRows, List.map_nil, List.length_nil]
      have hE1 : (A.err == 0) = false := by simp [hE]
      have hE2 : (A.err != 0) = true := by simp [hE]
      clear hv ht hE
      go_wp2_with fail
      obtain ⟨W, hW⟩ : ∃ W, w1.alloc (.cells #[.int .i64 A.err, .int .i64 A.fl, .int .i64 A.fc] 28) = W := ⟨_, rfl⟩
      have HF := Lib.hid (BK.new w1 [.int .i64 A.err, .int .i64 A.fl, .int .i64 A.fc] 28)
      have HBW := Lib.hid (bl_a HB1.out (.cells #[.int .i64 A.err, .int .i64 A.fl, .int .i64 A.fc] 28))
      have HMW := Lib.hid HM1.out
      change Hid (BK (w1.alloc (.cells #[.int .i64 A.err, .int .i64 A.fl, .int .i64 A.fc] 28)) _ _ _) at HF
      rw [hW] at HF HBW HMW ⊢
      have f0 := HF.out.cell 0
      have f1 := HF.out.cell 1
      have f2 := HF.out.cell 2
      clear hW HM1
      have h2' : A.fl ≤ 1 + (ln s s.size - 1) := by omega
      have hS1 : IntKind.i64.wrap (1 + (ln s s.size - 1)) = 1 + (ln s s.size - 1) := IntWalk.i64_in _ (by omega)
      have hS2 : IntKind.i64.wrap ((s.size : Int) + 1) = (s.size : Int) + 1 := IntWalk.i64_in _ (by omega)
      clear h2
      go_still_tail 35, (by kernel_rfl)
      still_call (feeds_same s _ (by omega))
      repeat still_step
      try refine wpStill_nil ?_
      change wpList _ _ _ _ _ (W.drewN 1)
      go_wp2_with (first | (go_at_call 8; refine (awake09 m _ (HMW.out _)).mono ?_; rintro e w4 ⟨rfl, hb4⟩; have HB4 := Lib.hid hb4; clear hb4))
      go_ret
      exact ⟨rfl, bl_then (bl_drewN HBW.out _) HB4.out⟩
end Go.Proofs.Ytmelilppeikdiaa
