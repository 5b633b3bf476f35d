/- The reader's word: the shape of what its methods for a token answer. -/
import Derived.Test.YtmelilppeikdiaaDoorSkip
import Derived.Test.YtmelilppeikdiaaDoorDir
import Derived.Test.YtmelilppeikdiaaDoorPastRow
import Derived.Laws.ResultCell
namespace Go.Proofs.YtmelilppeikdiaaDoor
open Go.RowKit Go.PlainAid

def tokV (t : TK) : Value := .agg #[.int .i64 t.kind, .string (mkB t.text), .int .i64 t.num, .int .i64 0, .int .i64 0]

/-- What a method for a token answers, and where the reader stands then: T is the token that stands at i. -/
def TokP (w' : World) (R : Nat) (s : ByteArray) (i : Nat) (T : TK) (v : Value) (e : Int) : Prop :=
  (T.err = 0 ∧ v = tokV T ∧ e = 0 ∧ RD w' R s (i + T.len) 0 0 0) ∨
  (T.err ≠ 0 ∧ (∃ k t n, v = .agg #[.int .i64 k, .string t, .int .i64 n, .int .i64 0, .int .i64 0]) ∧
    ((e = T.err ∧ T.off = 0 ∧ ∃ j, RD w' R s j 0 0 0) ∨ (e = 0 ∧ RD w' R s (i + T.off) T.err (ln s (i + T.off)) (cl s (i + T.off)))))

theorem RD.far {w : World} {R : Nat} {s : ByteArray} {i : Nat} {e fl fc : Int} (h : RD w R s i e fl fc) {b : Nat} (hb : R < b) (o : Nat) (u : Value) : RD (w.setCell ⟨b, o, none⟩ u) R s i e fl fc := by
  have hk : (w.setCell ⟨b, o, none⟩ u).heap[R]? = w.heap[R]? := Below.heap_setCell _ _ _ _ (by simp; omega)
  have hc : ∀ o', (w.setCell ⟨b, o, none⟩ u).cell? ⟨R, o', none⟩ = w.cell? ⟨R, o', none⟩ := fun o' => World.cell?_of_block (a := ⟨R, o', none⟩) hk
  have hz : ∀ o', (w.setCell ⟨b, o, none⟩ u).frozen? ⟨R, o', none⟩ = w.frozen? ⟨R, o', none⟩ := fun o' => World.frozen?_of_block (a := ⟨R, o', none⟩) hk
  exact ⟨by simp only [World.setCell, Array.size_modify]; exact h.blk, h.le, h.lim, by rw [hc]; exact h.c0, by rw [hc]; exact h.c1, by rw [hc]; exact h.c2, by rw [hc]; exact h.c3, by rw [hc]; exact h.c4, by rw [hc]; exact h.c5, by rw [hc]; exact h.c6, by rw [hz]; exact h.z1, by rw [hz]; exact h.z2, by rw [hz]; exact h.z3, by rw [hz]; exact h.z4, by rw [hz]; exact h.z5, by rw [hz]; exact h.z6⟩
theorem gb_far {a b : World} {r : Option Nat} (h : a.grownBy b r) {k : Nat} (hk : a.heap.size ≤ k) (o : Nat) (u : Value) : a.grownBy (b.setCell ⟨k, o, none⟩ u) r :=
  ⟨h.os, h.tape, h.output, by simp only [World.setCell, Array.size_modify]; exact h.size, fun i hi hn => by rw [Below.heap_setCell _ _ _ _ (by simp; omega)]; exact h.block i hi hn⟩

/-- The five cells of a result variable that has been laid ahead of a call which writes the reader's block. -/
theorem res_cells {w w1 : World} {R : Nat} {a b c d e : Value} {T : TypeId} (hR : R < w.heap.size) (hg : (w.alloc (.cells #[a, b, c, d, e] T)).grownBy w1 (some R)) :
    (w1.cell? ⟨w.heap.size, 0, none⟩ = some a ∧ w1.cell? ⟨w.heap.size, 1, none⟩ = some b ∧ w1.cell? ⟨w.heap.size, 2, none⟩ = some c ∧ w1.cell? ⟨w.heap.size, 3, none⟩ = some d ∧ w1.cell? ⟨w.heap.size, 4, none⟩ = some e) ∧
    ∀ o, w1.frozen? ⟨w.heap.size, o, none⟩ = false := by
  have hk := hg.block w.heap.size (by rw [World.size_alloc]; omega) (by simp; omega)
  have hc : ∀ o, w1.cell? ⟨w.heap.size, o, none⟩ = (w.alloc (.cells #[a, b, c, d, e] T)).cell? ⟨w.heap.size, o, none⟩ := fun o => World.cell?_of_block (a := ⟨w.heap.size, o, none⟩) hk
  have hz : ∀ o, w1.frozen? ⟨w.heap.size, o, none⟩ = (w.alloc (.cells #[a, b, c, d, e] T)).frozen? ⟨w.heap.size, o, none⟩ := fun o => World.frozen?_of_block (a := ⟨w.heap.size, o, none⟩) hk
  refine ⟨⟨?_, ?_, ?_, ?_, ?_⟩, fun o => ?_⟩
  · rw [hc, World.cell?_alloc_mark]; rfl
  · rw [hc, World.cell?_alloc_mark]; rfl
  · rw [hc, World.cell?_alloc_mark]; rfl
  · rw [hc, World.cell?_alloc_mark]; rfl
  · rw [hc, World.cell?_alloc_mark]; rfl
  · rw [hz, World.frozen?_alloc_mark]
    simp

theorem take_len {l : List UInt8} {n : Nat} (h : n ≤ l.length) : (mkB (l.take n)).size = n := by rw [mkB_size]; simp; omega

set_option maxHeartbeats 1000000 in
theorem lexWord (R : Nat) (s : ByteArray) (i : Nat) (m : Int) (w : World) (h : RD w R s i 0 0 0) (hR0 : 0 < R) (hm : w.cell? ⟨0, 0, none⟩ = some (.int .i64 m)) :
    Calls Tryd.prog 31 #[.pointer (some ⟨R, 0, none⟩)] w fun e' w' => ∃ v e, e' = .returned (.tuple #[v, .int .i64 e]) ∧ TokP w' R s i (wordT (sfx s i)) v e ∧ w.grownBy w' (some R) := by
  have hblk := h.blk
  have HR := Lib.hid h
  have hlim := h.lim
  clear h
  go_enter Tryd.func31, Tryd.ntmps31
  go_wp2_with fail
  refine (lexPastRow R s i 0 0 0 _ (HR.out.below (one_alloc _ _))).mono ?_
  rintro e' w1 ⟨rfl, hR1, hG1⟩
  obtain ⟨⟨hc0, hc1, hc2, hc3, hc4⟩, hz⟩ := res_cells hblk hG1
  have hz0 := hz 0
  have hz1 := hz 1
  have hz2 := hz 2
  have hz3 := hz 3
  have hz4 := hz 4
  clear hz
  have hm1 := hG1.cell (a := ⟨0, 0, none⟩) (v := .int .i64 m) (by rw [(one_alloc _ _).cell (lt_cell hm)]; exact hm) (by simp; omega)
  have HG1 := Lib.hid (gb_trans (World.grownBy_alloc w _ (some R)) hG1)
  have HR1 := Lib.hid hR1
  clear hG1 hR1
  have hn := runL_le cName (sfx s i)
  have hsz := take_len hn
  rw [sfx_len] at hn
  obtain ⟨B, hB⟩ : ∃ B, mkB ((sfx s i).take (runL cName (sfx s i))) = B := ⟨_, rfl⟩
  have hBt : (sfx s i).take (runL cName (sfx s i)) = B.data.toList := by rw [← hB]; rfl
  have hT : wordT (sfx s i) = (if keyL B.data.toList = true then ⟨4, B.data.toList, 0, runL cName (sfx s i), 0, 0⟩ else if 24 < runL cName (sfx s i) then ⟨1, B.data.toList, 0, runL cName (sfx s i), 9, 0⟩ else ⟨1, B.data.toList, 0, runL cName (sfx s i), 0, 0⟩) := by
    unfold wordT; rw [hBt]
  rw [hB] at hsz ⊢
  have hBe := mkB_of B
  clear hB hBt
  generalize runL cName (sfx s i) = n at *
  go_wp2_with fail
  refine (lexKey B m _ (by omega) hm1).mono ?_
  rintro e' w2 ⟨rfl, rfl⟩
  cases hk : keyL B.data.toList with
  | true =>
    have HT := Lib.hid (hT.trans (if_pos hk))
    have HB := Lib.hid hBe
    clear hT hBe hk
    go_wp2
    (try simp only [Exit.inBlock, Exit.then])
    refine bodyPost_ret (v := .tuple #[.agg #[.int .i64 4, .string B, .int .i64 0, .int .i64 0, .int .i64 0], .int .i64 0]) ?_ rfl ⟨_, _, rfl, .inl ⟨?_, ?_, rfl, ?_⟩, ?_⟩
    · rw [results_cell_tmp rfl]; go_simp
    · rw [HT.out]
    · rw [HT.out, tokV, HB.out]
    · rw [HT.out]; exact ((((HR1.out.far hblk _ _).far hblk _ _).far hblk _ _).far hblk _ _).far hblk _ _
    · exact gb_far (gb_far (gb_far (gb_far (gb_far HG1.out (Nat.le_refl _) _ _) (Nat.le_refl _) _ _) (Nat.le_refl _) _ _) (Nat.le_refl _) _ _) (Nat.le_refl _) _ _
  | false =>
    by_cases h24 : 24 < n
    · have HT := Lib.hid ((hT.trans (if_neg (by simp [hk]))).trans (if_pos h24))
      clear hT hBe hk
      go_wp2
      (try simp only [Exit.inBlock, Exit.then])
      refine bodyPost_ret (v := .tuple #[.agg #[.int .i64 0, .string ⟨#[]⟩, .int .i64 0, .int .i64 0, .int .i64 0], .int .i64 9]) ?_ rfl ⟨_, _, rfl, .inr ⟨?_, ⟨_, _, _, rfl⟩, .inl ⟨?_, ?_, ?_⟩⟩, ?_⟩
      · rw [results_cell_tmp rfl]; go_simp
      · rw [HT.out]; show (9 : Int) ≠ 0; decide
      · rw [HT.out]
      · rw [HT.out]
      · exact ⟨_, ((((HR1.out.far hblk _ _).far hblk _ _).far hblk _ _).far hblk _ _).far hblk _ _⟩
      · exact gb_far (gb_far (gb_far (gb_far (gb_far HG1.out (Nat.le_refl _) _ _) (Nat.le_refl _) _ _) (Nat.le_refl _) _ _) (Nat.le_refl _) _ _) (Nat.le_refl _) _ _
    · have HT := Lib.hid ((hT.trans (if_neg (by simp [hk]))).trans (if_neg h24))
      have HB := Lib.hid hBe
      clear hT hBe hk
      go_wp2
      (try simp only [Exit.inBlock, Exit.then])
      refine bodyPost_ret (v := .tuple #[.agg #[.int .i64 1, .string B, .int .i64 0, .int .i64 0, .int .i64 0], .int .i64 0]) ?_ rfl ⟨_, _, rfl, .inl ⟨?_, ?_, rfl, ?_⟩, ?_⟩
      · rw [results_cell_tmp rfl]; go_simp
      · rw [HT.out]
      · rw [HT.out, tokV, HB.out]
      · rw [HT.out]; exact ((((HR1.out.far hblk _ _).far hblk _ _).far hblk _ _).far hblk _ _).far hblk _ _
      · exact gb_far (gb_far (gb_far (gb_far (gb_far HG1.out (Nat.le_refl _) _ _) (Nat.le_refl _) _ _) (Nat.le_refl _) _ _) (Nat.le_refl _) _ _) (Nat.le_refl _) _ _
end Go.Proofs.YtmelilppeikdiaaDoor
