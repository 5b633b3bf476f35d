/- What is asked of chapter 9's examples: awake. And sameToks. -/
import Derived.Test.YtmelilppeikdiaaRefAll
namespace Go.Proofs.Ytmelilppeikdiaa
open Go.RowKit Go.PlainAid
set_option linter.unusedVariables false
set_option linter.unusedSimpArgs false

def say1 : ByteArray := ⟨#[115, 97, 121, 32, 49, 59]⟩
def b007 : ByteArray := ⟨#[48, 48, 55]⟩
def inB : ByteArray := ⟨#[105, 110]⟩
theorem say_all : allR say1 = ⟨[⟨⟨4, [115, 97, 121], 0, 3, 0, 0⟩, 1, 1⟩, ⟨⟨2, [], 1, 1, 0, 0⟩, 1, 5⟩, ⟨⟨5, [59], 0, 1, 0, 0⟩, 1, 6⟩, ⟨endT, 1, 7⟩], 0, 0, 0⟩ := by kernel_rfl
theorem b007_all : allR b007 = ⟨[], 4, 1, 1⟩ := by kernel_rfl
theorem in_dir : dirL inB.data.toList = 11 := by kernel_rfl

theorem SLN.open {k : Nat} {w : World} {v : Value} {rows : List (List Value)} (h : SLN k w v rows) (hn : 0 < rows.length) :
    ∃ b off c, v = .slice (some ⟨b, off, none⟩) rows.length c ∧ b < w.heap.size ∧ ∀ i j (h : i < rows.length), j < k → w.cell? ⟨b, off + i * k + j, none⟩ = rows[i][j]? := by
  rcases h.2.2 with ⟨rfl, _⟩ | h
  · simp at hn
  · exact h

set_option maxRecDepth 100000 in
set_option maxHeartbeats 4000000 in
theorem awake09 (m : Int) (w : World) (hm : w.cell? ⟨0, 0, none⟩ = some (.int .i64 m)) :
    Calls Try.prog 8 #[] w fun e w' => e = .returned (.bool true) ∧ Below w.heap.size w w' := by
  have HA1 := Lib.hid (fun w h => lexAll_fits say1 m w (by decide +kernel) h)
  have HA2 := Lib.hid (fun w h => lexAll_fits b007 m w (by decide +kernel) h)
  have HD := Lib.hid (fun w => lexDir inB w)
  rw [say_all] at HA1
  rw [b007_all] at HA2
  rw [in_dir] at HD
  have hw0 : 0 < w.heap.size := by have := lt_cell hm; omega
  have HM := Lib.hid hm
  clear hm
  go_enter Try.func8, Try.ntmps8
  go_wp2_with fail
  refine (HA1.out _ HM.out).mono ?_
  rintro e w1 ⟨v1, rfl, hv1, hb1⟩
  have HV1 := Lib.hid hv1
  have HB1 := Lib.hid hb1
  clear hv1 hb1
  have hm1 : (w1.alloc (.cells #[.int .i64 0, .int .i64 0, .int .i64 0] 28)).cell? ⟨0, 0, none⟩ = some (.int .i64 m) := by
    rw [(one_alloc _ _).cell (p := ⟨_, 0, none⟩) (Nat.lt_of_lt_of_le hw0 HB1.out.size), HB1.out.cell (p := ⟨_, 0, none⟩) hw0]; exact HM.out
  have HM1 := Lib.hid hm1
  clear hm1
  go_wp2_with fail
  refine (HA2.out _ HM1.out).mono ?_
  rintro e w2 ⟨v2, rfl, hv2, hb2⟩
  have HF := Lib.hid ((BK.new w1 [.int .i64 0, .int .i64 0, .int .i64 0] 28).below hb2)
  have HV2 := Lib.hid (((HV1.out.below (one_alloc _ _)).below hb2))
  have HB2 : Hid (Below w.heap.size w w2) := Lib.hid ((bl_a HB1.out _).trans (hb2.mono (Nat.le_trans HB1.out.size (by rw [World.size_alloc]; omega))))
  obtain ⟨b, off, c, hv, hblt, hcell⟩ := HV2.out.open (by decide)
  have e00 := hcell 0 0 (by decide) (by decide)
  have e01 := hcell 0 1 (by decide) (by decide)
  have e02 := hcell 0 2 (by decide) (by decide)
  have e03 := hcell 0 3 (by decide) (by decide)
  have e04 := hcell 0 4 (by decide) (by decide)
  have e12 := hcell 1 2 (by decide) (by decide)
  have e30 := hcell 3 0 (by decide) (by decide)
  have e31 := hcell 3 1 (by decide) (by decide)
  have e32 := hcell 3 2 (by decide) (by decide)
  have e33 := hcell 3 3 (by decide) (by decide)
  have e34 := hcell 3 4 (by decide) (by decide)
  simp [tokRows, tokCells, endT] at e00 e01 e02 e03 e04 e12 e30 e31 e32 e33 e34 hv
  subst hv
  have f0 := HF.out.cell 0
  have f1 := HF.out.cell 1
  have f2 := HF.out.cell 2
  have hFlt := HF.out.lt
  clear hb2 hcell hv2
  have t1 := mkB_toList [115, 97, 121]
  have t2 := mkB_toList []
  go_wp2_with (first | (go_at_call 11; refine (HD.out _).mono ?_; rintro e w3 ⟨rfl, hb3⟩; have HB3 := Lib.hid hb3; clear hb3))
  go_ret
  exact ⟨rfl, (bl_a HB2.out _).trans (HB3.out.mono (Nat.le_trans HB2.out.size (by rw [World.size_alloc]; omega)))⟩

set_option maxHeartbeats 4000000 in
theorem sameToks_eq (va vb : Value) (l : List TT) (w : World) (ha : SLN 5 w va (tokRows l)) (hb : SLN 5 w vb (tokRows l)) :
    Calls Try.prog 15 #[va, vb] w fun e w' => e = .returned (.bool true) ∧ ∃ n, w' = w.drewN n := by
  have hlen : (tokRows l).length = l.length := by simp [tokRows]
  have hm : l.length ≤ maxLen := by have := ha.1; rw [hlen] at this; exact this
  unfold maxLen at hm
  by_cases hz : 0 < l.length
  · obtain ⟨b, off, c, rfl, hblt, hca⟩ := ha.open (by rw [hlen]; exact hz)
    obtain ⟨b2, off2, c2, rfl, hblt2, hcb⟩ := hb.open (by rw [hlen]; exact hz)
    have HA := Lib.hid hca
    have HB := Lib.hid hcb
    rw [hlen]
    have HLEN := Lib.hid hlen
    clear hca hcb ha hb hlen
    go_enter Try.func15, Try.ntmps15
    go_wp2
    go_loopw [13] (fun p wr => ∃ k n : Nat, k ≤ l.length ∧ p = .int .i64 k ∧ wr = w.drewN n) (fun p _ => l.length - (intOf p).toNat)
    case atStart => exact ⟨0, 0, by omega, rfl, rfl⟩
    case round =>
      obtain ⟨k, n, hk, rfl, rfl⟩ := hrel
      by_cases hkl : k < l.length
      · have hr : k < (tokRows l).length := by rw [HLEN.out]; exact hkl
        have hx : (tokRows l)[k] = tokCells l[k] := by simp [tokRows]
        have a0 := HA.out k 0 hr (by decide)
        have a1 := HA.out k 1 hr (by decide)
        have a2 := HA.out k 2 hr (by decide)
        have a3 := HA.out k 3 hr (by decide)
        have a4 := HA.out k 4 hr (by decide)
        have b0 := HB.out k 0 hr (by decide)
        have b1 := HB.out k 1 hr (by decide)
        have b2 := HB.out k 2 hr (by decide)
        have b3 := HB.out k 3 hr (by decide)
        have b4 := HB.out k 4 hr (by decide)
        rw [hx] at a0 a1 a2 a3 a4 b0 b1 b2 b3 b4
        obtain ⟨x, hxe⟩ : ∃ x, l[k] = x := ⟨_, rfl⟩
        rw [hxe] at a0 a1 a2 a3 a4 b0 b1 b2 b3 b4
        simp [tokCells] at a0 a1 a2 a3 a4 b0 b1 b2 b3 b4
        clear hx hxe hr
        have hk0 : (0 : Int) ≤ (k : Int) := by omega
        have hk1 : (k : Int) < (l.length : Int) := by omega
        go_wp2_with fail
        go_quiet (fail)
        go_wp2
        go_roundw
        case rel => exact ⟨k + 1, _, hkl, by go_num, by first | rfl | exact World.drewN_drewN _ _ _⟩
        case measure => simp [intOf]; omega
      · go_wp2
        go_ret
        exact ⟨rfl, _, rfl⟩
  · have hl : l = [] := List.length_eq_zero_iff.1 (by omega)
    subst hl
    obtain ⟨a, c, rfl⟩ := ha.len
    obtain ⟨a2, c2, rfl⟩ := hb.len
    clear ha hb
    simp only [tokRows, List.map_nil, List.length_nil]
    go_enter Try.func15, Try.ntmps15
    go_wp2
    go_loopw [13] (fun p wr => p = .int .i64 0 ∧ wr = w) (fun p _ => 0)
    case atStart => exact ⟨rfl, rfl⟩
    case round =>
      obtain ⟨rfl, rfl⟩ := hrel
      go_wp2
      go_ret
      exact ⟨rfl, 0, rfl⟩
end Go.Proofs.Ytmelilppeikdiaa
