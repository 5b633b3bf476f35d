/- Contracts of slices.Grow, slices.Concat (bytes), op.Encode's pieces. -/
import Derived.Test.YtbcpopakdlplgaaDoorAsmC2
import Derived.Test.YtbcpopakdlplgaaDoorAsmRd
import Derived.Lib.AppendZerosOnto
import Derived.Lib.SliceRun
namespace Go.Proofs.YtbcpopakdlplgaaDoor
open Go.RowKit Go.PlainAid
set_option linter.unusedVariables false
set_option linter.unusedSimpArgs false

theorem bl_thenA {a b c : World} (h : Below a.heap.size a b) (k : Below b.heap.size b c) : Below a.heap.size a c := h.trans (k.mono h.size)
theorem growC (n : Nat) (w : World) (h1 : 1 ≤ n) (h2 : n ≤ 1000) : Calls Tryd.prog 62 #[.slice none 0 0, .int .i64 n] w fun e w' => ∃ v, e = .returned v ∧ OwB w' w.heap.size v [] ∧ Below w.heap.size w w' := by
  obtain ⟨i0, hi, hz0, hz1, hz2⟩ := info_parts Tryd.infoByte
  have hold : (Builtin.firstCells i0.size 0 (.slice none 0 0)).run Tryd.prog w.drew = .ok ([] : List Value).toArray w.drew := run_firstCells_none w.drew i0.size 0 0 0
  have hrz : ∀ ty, (Builtin.append_ #[27, 3] ty #[.slice none 0 0, .int .i64 (n : Int)]).run Tryd.prog w = _ := fun ty =>
    Lib.run_append_grow_zeros w 27 3 ty 5 i0 (.int .u8 0) .i64 .i64 Tryd.underlying27 Tryd.underlying3 hi hz0 none 0 0 [] hold n (by omega) (by rw [hz1]; decide) (by omega) (by omega) (by rw [hz2]; omega)
      (growslice_fits (by omega) (by rw [hz2]; omega))
  rw [Nat.zero_add] at hrz
  have hG1 : n ≤ grownCap w n 0 5 := grownCap_ge w _ _ _
  have hG2 : grownCap w n 0 5 ≤ maxLen := grownCap_le_maxLen w n 0 5 (by unfold maxLen; omega)
  obtain ⟨G, hG⟩ : ∃ G, grownCap w n 0 5 = G := ⟨_, rfl⟩
  rw [hG] at hrz hG1 hG2
  have hGx : G ≤ 9223372036854775807 := by unfold maxLen at hG2; exact hG2
  obtain ⟨cs, hcs⟩ : ∃ cs : Array Value, ([] : List Value).toArray ++ Builtin.zeroCells (Value.int .u8 0).cells n ++ Builtin.zeroCells (Value.int .u8 0).cells (G - n) = cs := ⟨_, rfl⟩
  have hsz : cs.size = G := by
    rw [← hcs]
    simp [Builtin.zeroCells, Value.cells]
    omega
  rw [hcs] at hrz
  have HSZ := Lib.hid hsz
  clear hG hcs hold hsz
  go_enter Tryd.func62, Tryd.ntmps62
  go_wp2_with (at_builtin; refine Lib.wpList_append_run _ rfl _ _ _ _ rfl _ _ rfl rfl _ _ (hrz _) ?_)
  go_ret
  refine ⟨_, rfl, ?_, (Below.refl _ _).drew.alloc (Nat.le_refl _) _⟩
  refine ⟨rfl, .inr ⟨w.heap.size, G, cs, rfl, Nat.le_refl _, ?_, Nat.zero_le _, hG2, by rw [HSZ.out, Nat.mul_one], by simp⟩⟩
  exact heap_alloc_new w.drew _
theorem byte_news {w : World} {b o : Nat} {l : List UInt8} (h : ∀ i (hi : i < l.length), w.cell? ⟨b, o + i, none⟩ = some (byteV l[i])) : ∀ j u, (l.map byteV)[j]? = some u → w.cell? ((⟨b, o, none⟩ : Addr).add j) = some u := by
  intro j u hj
  rw [addr_addC]
  obtain ⟨hj', e⟩ := List.getElem?_eq_some_iff.1 hj
  rw [h j (by simpa using hj'), ← e, List.getElem_map]
theorem byte_one (l : List UInt8) : ∀ u ∈ l.map byteV, u.oneCell' = true := by
  intro u hu
  obtain ⟨c, _, rfl⟩ := List.mem_map.1 hu; rfl
set_option maxRecDepth 100000 in
set_option maxHeartbeats 4000000 in
theorem concatC (w : World) (B b0 o0 c0 b1 o1 c1 : Nat) (l0 l1 : List UInt8) (n0 n1 : Nat) (hn0 : l0.length = n0) (hn1 : l1.length = n1) (h0 : 1 ≤ n0) (hm : n0 + n1 ≤ 1000)
    (hc0 : w.cell? ⟨B, 0, none⟩ = some (.slice (some ⟨b0, o0, none⟩) n0 c0)) (hc1 : w.cell? ⟨B, 1, none⟩ = some (.slice (some ⟨b1, o1, none⟩) n1 c1))
    (hl0 : ∀ i (hi : i < l0.length), w.cell? ⟨b0, o0 + i, none⟩ = some (byteV l0[i])) (hl1 : ∀ i (hi : i < l1.length), w.cell? ⟨b1, o1 + i, none⟩ = some (byteV l1[i])) :
    Calls Tryd.prog 51 #[.slice (some ⟨B, 0, none⟩) 2 2] w fun e w' => ∃ v, e = .returned v ∧ OwB w' w.heap.size v (l0 ++ l1) ∧ Below w.heap.size w w' := by
  have hB := lt_cell hc0
  obtain ⟨i0, hi, hz0, hz1, hz2⟩ := info_parts Tryd.infoByte
  have HB0 : Hid (0 < l0.length → b0 < w.heap.size) := Lib.hid (fun h => lt_cell (hl0 0 h))
  have HB1 : Hid (0 < l1.length → b1 < w.heap.size) := Lib.hid (fun h => lt_cell (hl1 0 h))
  have HL0 := Lib.hid hl0
  have HL1 := Lib.hid hl1
  have HN0 := Lib.hid hn0
  have HN1 := Lib.hid hn1
  have HC0 := Lib.hid hc0
  have HC1 := Lib.hid hc1
  have HG := Lib.hid (fun w => growC (n0 + n1) w (by omega) hm)
  rw [Int.natCast_add] at HG
  clear hl0 hl1 hn0 hn1
  go_enter Tryd.func51, Tryd.ntmps51
  go_wp2
  go_loop [3, 11] (fun z i => (i = .int .i64 0 ∧ z = .int .i64 0) ∨ (i = .int .i64 1 ∧ z = .int .i64 n0) ∨ (i = .int .i64 2 ∧ z = .int .i64 ((n0 : Int) + n1))) (fun _ i => 2 - (intOf i).toNat)
  case atStart => exact .inl ⟨rfl, rfl⟩
  case round =>
    rcases hrel with ⟨rfl, rfl⟩ | ⟨rfl, rfl⟩ | ⟨rfl, rfl⟩
    · go_wp2
      go_round
      case rel => exact .inr (.inl ⟨rfl, rfl⟩)
      case measure => simp [intOf]
    · go_wp2
      go_round
      case rel => exact .inr (.inr ⟨rfl, rfl⟩)
      case measure => simp [intOf]
    · go_wp2_with fail
      refine (HG.out _).mono ?_
      rintro e w1 ⟨v1, rfl, hO1, hB1⟩
      have HO1 := Lib.hid hO1
      have HB1' := Lib.hid hB1
      clear hO1 hB1 hc0 hc1
      go_wp2_with fail
      go_loopw [6, 27] (fun v i wr => ∃ L : List UInt8, ((i = .int .i64 0 ∧ L = []) ∨ (i = .int .i64 1 ∧ L = l0) ∨ (i = .int .i64 2 ∧ L = l0 ++ l1)) ∧ Hid (OwB wr w.heap.size v L) ∧ Hid (Below w.heap.size w wr)) (fun _ i _ => 2 - (intOf i).toNat)
      case atStart => exact ⟨[], .inl ⟨rfl, rfl⟩, HO1, HB1'⟩
      case round =>
        obtain ⟨L, hL, HO, HB⟩ := hrel
        obtain ⟨va, vc, hv⟩ := ow_shape HO.out
        subst hv
        have hc0 := (bcell HB.out).1 B 0 hB
        have hc1 := (bcell HB.out).1 B 1 hB
        rw [HC0.out] at hc0
        rw [HC1.out] at hc1
        have hsz := HB.out.size
        rcases hL with ⟨rfl, rfl⟩ | ⟨rfl, rfl⟩ | ⟨rfl, rfl⟩
        · have hnew := Lib.hid (byte_news (w := wr) (b := b0) (o := o0) (l := l0) (fun i hi => by rw [(bcell HB.out).1 b0 _ (HB0.out (by omega))]; exact HL0.out i hi))
          go_wp2_with (at_builtin; refine wpList_append_own _ rfl _ _ 27 rfl w.heap.size 5 i0 (.int .u8 0) 1 1 Tryd.underlying27 hi hz0 hz1 hz2 rfl (by decide) _ _ _ rfl HO.out ⟨b0, o0, none⟩ n0 c0 (l0.map byteV) rfl (by rw [List.length_map, HN0.out, Nat.mul_one]) hnew.out (byte_one _) (by unfold maxLen; simp; omega) (by simp; omega) hsz ?_; intro v5 w5 hown5 hgrow5 _)
          have HO5 := Lib.hid (OwB.app (L := []) (X := l0) (by rw [HN0.out]; exact hown5))
          have HB5 := Lib.hid (bl_g HB.out hgrow5 (ow_lo HO.out))
          clear hown5 hgrow5
          go_wp2
          go_roundw
          case rel => exact ⟨_, .inr (.inl ⟨rfl, rfl⟩), HO5, HB5⟩
          case measure => simp [intOf]
        · have hnew := Lib.hid (byte_news (w := wr) (b := b1) (o := o1) (l := l1) (fun i hi => by rw [(bcell HB.out).1 b1 _ (HB1.out (by omega))]; exact HL1.out i hi))
          have hlen := HN0.out
          go_wp2_with (at_builtin; refine wpList_append_own _ rfl _ _ 27 rfl w.heap.size 5 i0 (.int .u8 0) 1 1 Tryd.underlying27 hi hz0 hz1 hz2 rfl (by decide) _ _ _ rfl HO.out ⟨b1, o1, none⟩ n1 c1 (l1.map byteV) rfl (by rw [List.length_map, HN1.out, Nat.mul_one]) hnew.out (byte_one _) (by unfold maxLen; omega) (by omega) hsz ?_; intro v5 w5 hown5 hgrow5 _)
          have HO5 := Lib.hid (OwB.app (L := L) (X := l1) (by rw [HN1.out]; exact hown5))
          have HB5 := Lib.hid (bl_g HB.out hgrow5 (ow_lo HO.out))
          clear hown5 hgrow5
          go_wp2
          go_roundw
          case rel => exact ⟨_, .inr (.inr ⟨rfl, rfl⟩), HO5, HB5⟩
          case measure => simp [intOf]
        · go_wp2
          go_ret
          exact ⟨_, rfl, HO.out, HB.out⟩
end Go.Proofs.YtbcpopakdlplgaaDoor
