/- Contracts of clewlaw30.place, labelled; the walk of AsmNormal. -/
import Derived.Test.YtbcpopakdlplgaaDoorAsmLaw
import Derived.Test.YtbcpopakdlplgaaDoorAsmN2
namespace Go.Proofs.YtbcpopakdlplgaaDoor
open Go.RowKit Go.PlainAid Go.Maps
set_option linter.unusedVariables false
set_option linter.unusedSimpArgs false

set_option maxRecDepth 100000 in
set_option maxHeartbeats 4000000 in
theorem lawPlaceC (v : Value) (l : List IN) (a : Int) (w : World) (hr : Reads Cd.ins.seq w v l) (hl : l.length ≤ 100000) :
    Calls Tryd.prog 22 #[v, .agg #[.int .i64 38, .int .i64 a]] w fun e w' => e = .returned (.int .i64 (stndGo a l 0)) ∧ Below w.heap.size w w' := by
  obtain ⟨ad, c, hv, hcap, hm⟩ := hr.len
  subst hv
  have HC := Lib.hid (cells_of hr).1
  obtain ⟨n, hn⟩ : ∃ n, l.length = n := ⟨_, rfl⟩
  have HN := Lib.hid hn
  rw [hn] at hcap hm hl ⊢
  unfold maxLen at hm
  obtain ⟨B, hB⟩ : ∃ B, w.heap.size = B := ⟨_, rfl⟩
  have HB0 := Lib.hid hB
  have hk0 := BK.new w [.int .i64 38, .int .i64 a] 37
  rw [hB] at hk0 ⊢
  have HK0 := Lib.hid hk0
  have HW0 := Lib.hid (bl_one w (.cells #[.int .i64 38, .int .i64 a] 37))
  rw [hB] at HW0
  clear hr hn hk0
  go_enter Tryd.func22, Tryd.ntmps22
  go_wp2
  go_loopw [9] (fun i wr => ∃ k : Nat, i = .int .i64 k ∧ k ≤ n ∧ Hid (Below B w wr) ∧ Hid (BK wr B [.int .i64 38, .int .i64 a] 37) ∧ Hid (∀ j, ∀ h : j < l.length, j < k → ¬ (isL l[j] = true ∧ l[j].arg = a))) (fun i _ => n - (intOf i).toNat)
  case atStart => exact ⟨0, rfl, Nat.zero_le _, HW0, HK0, Lib.hid (fun j _ h => by omega)⟩
  case round =>
    obtain ⟨k, rfl, hk, HB, HK, HF⟩ := hrel
    by_cases hlt : k < n
    · have hkl : k < l.length := by rw [HN.out]; exact hlt
      have HB' : Hid (Below w.heap.size w wr) := Lib.hid (by rw [HB0.out]; exact HB.out)
      obtain ⟨b, off, ha, hblt, hw, hx0, hx1⟩ := (HC.out.below HB'.out) k hkl
      subst ha
      obtain ⟨x, hx⟩ : ∃ x, l[k] = x := ⟨_, rfl⟩
      rw [hx] at hw hx0 hx1
      have HX := Lib.hid hx
      have hk0 : (0 : Int) ≤ (k : Int) := by omega
      have hk1 : (k : Int) < (n : Int) := by omega
      have hbs : B < wr.heap.size := HK.out.lt
      have hkk := HK.out.alloc (.cells #[.int .i64 x.op, .int .i64 x.arg] 37)
      have z0 := hkk.cell 0
      have z1 := hkk.cell 1
      simp only [List.getElem?_cons_zero, List.getElem?_cons_succ] at z0 z1
      clear hx hkk
      by_cases he : isL x = true ∧ x.arg = a
      · obtain ⟨h1, h2⟩ := he
        have h38 : x.op = 38 := by unfold isL at h1; simpa using h1
        have HR : Hid (stndGo a l 0 = (k : Int)) := Lib.hid (stnd_hit hkl HF.out (by rw [HX.out]; exact ⟨h1, h2⟩))
        rw [h38] at hx0
        rw [h2] at hx1
        have z0' : (wr.alloc (.cells #[.int .i64 38, .int .i64 a] 37)).cell? ⟨B, 0, none⟩ = some (.int .i64 38) := (HK.out.alloc _).cell 0
        have z1' : (wr.alloc (.cells #[.int .i64 38, .int .i64 a] 37)).cell? ⟨B, 1, none⟩ = some (.int .i64 a) := (HK.out.alloc _).cell 1
        clear h1 h2 h38 z0 z1
        go_wp2_with fail
        go_ret
        exact ⟨ret_i HR.out.symm, HB.out.alloc (by omega) _⟩
      · have HF2 : Hid (∀ j, ∀ h : j < l.length, j < k + 1 → ¬ (isL l[j] = true ∧ l[j].arg = a)) := Lib.hid (fun j hj hjk => by
          by_cases e : j = k
          · subst e; rw [HX.out]; exact he
          · exact HF.out j hj (by omega))
        have HB2 : Hid (Below B w (wr.alloc (.cells #[.int .i64 x.op, .int .i64 x.arg] 37))) := Lib.hid (HB.out.alloc (by omega) _)
        have HK2 : Hid (BK (wr.alloc (.cells #[.int .i64 x.op, .int .i64 x.arg] 37)) B [.int .i64 38, .int .i64 a] 37) := Lib.hid (HK.out.alloc _)
        by_cases h38 : x.op = 38
        · have hxa : ¬ x.arg = a := fun h => he ⟨by unfold isL; simp [h38], h⟩
          have hax : ¬ a = x.arg := fun h => hxa h.symm
          rw [h38] at hx0 z0 HB2 HK2
          have z0' : (wr.alloc (.cells #[.int .i64 38, .int .i64 x.arg] 37)).cell? ⟨B, 0, none⟩ = some (.int .i64 38) := (HK.out.alloc _).cell 0
          have z1' : (wr.alloc (.cells #[.int .i64 38, .int .i64 x.arg] 37)).cell? ⟨B, 1, none⟩ = some (.int .i64 a) := (HK.out.alloc _).cell 1
          clear he h38 z0 z1
          go_wp2_with fail
          go_roundw
          case rel => exact ⟨k + 1, by go_num, by omega, HB2, HK2, HF2⟩
          case measure => simp [intOf]; omega
        · have h83 : ¬ 38 = x.op := fun h => h38 h.symm
          clear he
          go_wp2_with fail
          go_roundw
          case rel => exact ⟨k + 1, by go_num, by omega, HB2, HK2, HF2⟩
          case measure => simp [intOf]; omega
    · have hkn : k = n := by omega
      subst hkn
      have HR : Hid (stndGo a l 0 = -1) := Lib.hid (stnd_miss (fun j hj => HF.out j hj (by rw [← HN.out]; exact hj)))
      go_wp2
      go_ret
      exact ⟨ret_i HR.out.symm, HB.out⟩
end Go.Proofs.YtbcpopakdlplgaaDoor
