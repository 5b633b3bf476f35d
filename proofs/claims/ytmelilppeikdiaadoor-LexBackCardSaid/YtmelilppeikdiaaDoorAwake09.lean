/- What is asked of chapter 9's examples: awake. And sameToks. -/
import Derived.Test.YtmelilppeikdiaaDoorAll
import Derived.Test.YtmelilppeikdiaaDoorDir
namespace Go.Proofs.YtmelilppeikdiaaDoor
open Go.RowKit Go.PlainAid
set_option linter.unusedVariables false
set_option linter.unusedSimpArgs false

def say1 : ByteArray := ⟨#[115, 97, 121, 32, 49, 59]⟩
def b007 : ByteArray := ⟨#[48, 48, 55]⟩
def inB : ByteArray := ⟨#[105, 110]⟩
theorem say_all : allR say1 = ⟨[⟨⟨4, [115, 97, 121], 0, 3, 0, 0⟩, 1, 1⟩, ⟨⟨2, [], 1, 1, 0, 0⟩, 1, 5⟩, ⟨⟨5, [59], 0, 1, 0, 0⟩, 1, 6⟩, ⟨endT, 1, 7⟩], 0, 0, 0⟩ := by kernel_rfl
theorem b007_all : allR b007 = ⟨[], 4, 1, 1⟩ := by kernel_rfl
theorem in_dir : dirL inB.data.toList = 11 := by kernel_rfl

theorem SLN.open {k : Nat} {w : World} {v : Value} {rows : List (List Value)} (h : SLN k w v rows) (hn : 0 < rows.length) :
    ∃ b off c, v = .slice (some ⟨b, off, none⟩) rows.length c ∧ b < w.heap.size ∧ ∀ i j (h : i < rows.length), j < k → w.cell? ⟨b, off + i * k + j, none⟩ = rows[i][j]? := by
  rcases h.2.2 with ⟨rfl, _⟩ | h
  · simp at hn
  · exact h

set_option maxRecDepth 100000 in
set_option maxHeartbeats 4000000 in
theorem awake09 (m : Int) (w : World) (hm : w.cell? ⟨0, 0, none⟩ = some (.int .i64 m)) :
    Calls Tryd.prog 5 #[] w fun e w' => e = .returned (.bool true) ∧ Below w.heap.size w w' := by
  have HA1 := Lib.hid (fun w h => lexAll_fits say1 m w (by decide +kernel) h)
  have HA2 := Lib.hid (fun w h => lexAll_fits b007 m w (by decide +kernel) h)
  have HD := Lib.hid (fun w => lexDir inB w)
  rw [say_all] at HA1
  rw [b007_all] at HA2
  rw [in_dir] at HD
  have hw0 : 0 < w.heap.size := by have := lt_cell hm; omega
  have HM := Lib.hid hm
  clear hm
  go_enter Tryd.func5, Tryd.ntmps5
  go_wp2_with fail
  refine (HA1.out _ HM.out).mono ?_
  rintro e w1 ⟨v1, rfl, hv1, hb1⟩
  have HV1 := Lib.hid hv1
  have HB1 := Lib.hid hb1
  clear hv1 hb1
  have hm1 : (w1.alloc (.cells #[.int .i64 0, .int .i64 0, .int .i64 0] 31)).cell? ⟨0, 0, none⟩ = some (.int .i64 m) := by
    rw [(one_alloc _ _).cell (p := ⟨_, 0, none⟩) (Nat.lt_of_lt_of_le hw0 HB1.out.size), HB1.out.cell (p := ⟨_, 0, none⟩) hw0]; exact HM.out
  have HM1 := Lib.hid hm1
  clear hm1
  go_wp2_with fail
  refine (HA2.out _ HM1.out).mono ?_
  rintro e w2 ⟨v2, rfl, hv2, hb2⟩
  have HF := Lib.hid ((BK.new w1 [.int .i64 0, .int .i64 0, .int .i64 0] 31).below hb2)
  have HV2 := Lib.hid (((HV1.out.below (one_alloc _ _)).below hb2))
  have HB2 : Hid (Below w.heap.size w w2) := Lib.hid ((bl_a HB1.out _).trans (hb2.mono (Nat.le_trans HB1.out.size (by rw [World.size_alloc]; omega))))
  obtain ⟨b, off, c, hv, hblt, hcell⟩ := HV2.out.open (by decide)
  have e00 := hcell 0 0 (by decide) (by decide)
  have e01 := hcell 0 1 (by decide) (by decide)
  have e02 := hcell 0 2 (by decide) (by decide)
  have e03 := hcell 0 3 (by decide) (by decide)
  have e04 := hcell 0 4 (by decide) (by decide)
  have e12 := hcell 1 2 (by decide) (by decide)
  have e30 := hcell 3 0 (by decide) (by decide)
  have e31 := hcell 3 1 (by decide) (by decide)
  have e32 := hcell 3 2 (by decide) (by decide)
  have e33 := hcell 3 3 (by decide) (by decide)
  have e34 := hcell 3 4 (by decide) (by decide)
  simp [tokRows, tokCells, endT] at e00 e01 e02 e03 e04 e12 e30 e31 e32 e33 e34 hv
  subst hv
  have f0 := HF.out.cell 0
  have f1 := HF.out.cell 1
  have f2 := HF.out.cell 2
  have hFlt := HF.out.lt
  clear hb2 hcell hv2
  have t1 := mkB_toList [115, 97, 121]
  have t2 := mkB_toList []
  go_wp2_with (first | (go_at_call 11; refine (HD.out _).mono ?_; rintro e w3 ⟨rfl, hb3⟩; have HB3 := Lib.hid hb3; clear hb3))
  go_ret
  exact ⟨rfl, (bl_a HB2.out _).trans (HB3.out.mono (Nat.le_trans HB2.out.size (by rw [World.size_alloc]; omega)))⟩

end Go.Proofs.YtmelilppeikdiaaDoor
