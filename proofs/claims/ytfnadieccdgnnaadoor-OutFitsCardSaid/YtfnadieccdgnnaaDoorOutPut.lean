/- Contract of the closure put of out.paragraph. -/
import Derived.Test.YtfnadieccdgnnaaDoorOutRef2
import Derived.Test.YtfnadieccdgnnaaDoorAppend
import Derived.Deep.RegionHeld3
import Derived.Deep.AppendLies
import Derived.Deep.RegionLaw
namespace Go.Proofs.YtfnadieccdgnnaaDoor
open Go.RowKit Go.PlainAid
set_option linter.unusedVariables false
set_option linter.unusedSimpArgs false

/-- What put's three variables hold: width, out, line. -/
structure PuS (w : World) (B n : Nat) (v : Value) (line : List UInt8) (out : List (List UInt8)) : Prop where
  size : B + 3 ≤ w.heap.size
  bw : BK w B [.int .i64 n] 3
  bo : BK w (B + 1) [v] 24
  bl : BK w (B + 2) [strV line] 9
  own : OwS w (B + 3) v out
theorem PuS.setl {w : World} {B n : Nat} {v : Value} {line : List UInt8} {out : List (List UInt8)} (h : PuS w B n v line out) (l : List UInt8) : PuS (w.setCell ⟨B + 2, 0, none⟩ (strV l)) B n v l out :=
  ⟨by simp [World.setCell]; exact h.size, h.bw.setO (by omega) _ _, h.bo.setO (by omega) _ _, h.bl.set 0 _, ow_grown h.own (gr_set _ _ _ _) (fun j hj => by have := Option.some.inj hj; omega)⟩
theorem PuS.push {w w' : World} {B n : Nat} {v v' : Value} {line x : List UInt8} {out : List (List UInt8)} {o : Obj} (h : PuS w B n v line out) (hg : (w.alloc o).grownBy w' v.ownBlock)
    (hown : w'.ownsRow (B + 3) 9 1 v' (out.length + 1) (out.map strV ++ [strV x])) : PuS (w'.setCell ⟨B + 1, 0, none⟩ v') B n v' line (out ++ [x]) := by
  have hlo := ow_lo h.own
  have hk := fun (j : Nat) (hj : v.ownBlock = some j) (c : Nat) (hc : c < B + 3) => (show j ≠ c by have := hlo j hj; omega)
  have hs := hg.size
  rw [World.size_alloc] at hs
  refine ⟨by simp [World.setCell]; have := h.size; omega, ?_, ?_, ?_, ?_⟩
  · exact ((h.bw.alloc o).kept hg (fun j hj => hk j hj B (by omega))).setO (by omega) _ _
  · exact ((h.bo.alloc o).kept hg (fun j hj => hk j hj (B + 1) (by omega))).set 0 _
  · exact ((h.bl.alloc o).kept hg (fun j hj => hk j hj (B + 2) (by omega))).setO (by omega) _ _
  · exact ow_grown (OwS.snoc hown) (gr_set _ _ _ _) (fun j hj => by have := Option.some.inj hj; omega)
theorem PuS.drew {w : World} {B n : Nat} {v : Value} {line : List UInt8} {out : List (List UInt8)} (h : PuS w B n v line out) (m : Nat) : PuS (w.drewN m) B n v line out := ⟨h.size, h.bw, h.bo, h.bl, h.own⟩

theorem PuS.bo' {w w' : World} {B n : Nat} {v : Value} {line : List UInt8} {out : List (List UInt8)} {o : Obj} (h : PuS w B n v line out) (hg : (w.alloc o).grownBy w' v.ownBlock) : w'.cell? ⟨B + 1, 0, none⟩ = some v ∧ w'.frozen? ⟨B + 1, 0, none⟩ = false := by
  have hb : BK w' (B + 1) [v] 24 := (h.bo.alloc o).kept hg (fun j hj => by have := ow_lo h.own j hj; omega)
  exact ⟨hb.cell 0, hb.fr 0⟩
theorem bB_a {B : Nat} {w x : World} (h : Below B w x) (hx : B ≤ x.heap.size) (o : Obj) : Below B w (x.alloc o) := h.alloc hx o
theorem bB_s {B : Nat} {w x : World} {k : Nat} (h : Below B w x) (o : Nat) (u : Value) (hk : B ≤ k := by omega) : Below B w (x.setCell ⟨k, o, none⟩ u) := h.setCell hk u

set_option maxRecDepth 100000 in
set_option maxHeartbeats 8000000 in
theorem outPut (B n : Nat) (v : Value) (line x : List UInt8) (out : List (List UInt8)) (w : World) (hn1 : 1 ≤ n) (hn2 : n ≤ 256) (hS : PuS w B n v line out) (hl : line.length ≤ n) (hb : out.length + x.length ≤ 200000) :
    Calls Tryd.prog 23 #[.string (mkB x), .pointer (some ⟨B + 2, 0, none⟩), .pointer (some ⟨B, 0, none⟩), .pointer (some ⟨B + 1, 0, none⟩)] w fun e w' =>
      e = .returned (.tuple #[]) ∧ ∃ v', PuS w' B n v' (putO n (out, line) x).2 (putO n (out, line) x).1 ∧ Below B w w' := by
  obtain ⟨i0, hi, hz0, hz1, hz2⟩ := info_parts Tryd.infoStr
  obtain ⟨va, vc, hv⟩ := ow_shape hS.own
  subst hv
  have HS := Lib.hid hS
  have hls : (mkB line).size = line.length := mkB_size line
  have hlt := mkB_toList line
  have hxs : (mkB x).size = x.length := mkB_size x
  have cw := hS.bw.cell 0
  have co := hS.bo.cell 0
  have fo := hS.bo.fr 0
  have fl := hS.bl.fr 0
  have cl := hS.bl.cell 0
  have hsz0 := hS.size
  simp only [List.getElem?_cons_zero] at cw co cl
  unfold strV at cl
  by_cases hle : line = []
  · have HPut : Hid (putO n (out, line) x = (out ++ (chopL n x).1, (chopL n x).2)) := Lib.hid (by
      unfold putO; rw [if_neg (fun h => h.1 hle), if_neg (fun h => h hle)])
    have hle1 : line.isEmpty = true := by rw [hle]; rfl
    clear hle hS
    go_enter Tryd.func23, Tryd.ntmps23
    go_wp2_with fail
    obtain ⟨wo, hwo⟩ : ∃ wo, w = wo := ⟨_, rfl⟩
    have HW0 := HS
    have HB0 : Hid (Below B w wo) := by rw [← hwo]; exact (Lib.hid (Below.refl B w))
    rw [hwo] at HW0 ⊢
    clear hwo
    go_loopw [0] (fun y wr2 => ∃ (v2 : Value) (out2 : List (List UInt8)) (z : List UInt8), y = .string (mkB z) ∧ out2.length + z.length ≤ 300000 ∧ Hid (PuS wr2 B n v2 line out2) ∧ Hid (Below B w wr2) ∧ Hid (out2 ++ (chopL n z).1 = out ++ (chopL n x).1 ∧ (chopL n z).2 = (chopL n x).2)) (fun y _ => match y with | .string q => q.size | _ => 0)
    case atStart => exact ⟨_, _, x, rfl, by (try simp); omega, HW0, HB0, Lib.hid ⟨rfl, rfl⟩⟩
    case round =>
      obtain ⟨v2, out2, z, rfl, hb2, hS2, hBl2, hZ⟩ := hrel
      obtain ⟨va2, vc2, hv2⟩ := ow_shape hS2.out.own
      subst hv2
      have hzs : (mkB z).size = z.length := mkB_size z
      have cw := hS2.out.bw.cell 0
      have co := hS2.out.bo.cell 0
      have fo := hS2.out.bo.fr 0
      have fl := hS2.out.bl.fr 0
      have cl := hS2.out.bl.cell 0
      simp only [List.getElem?_cons_zero] at cw co cl
      by_cases hnz : n < z.length
      · have hnz1 : (n : Int) ≤ (z.length : Int) := by omega
        have hnz0 : (0 : Int) ≤ (n : Int) := by omega
        have hzc : Hid ((out2 ++ [z.take n]) ++ (chopL n (z.drop n)).1 = out ++ (chopL n x).1 ∧ (chopL n (z.drop n)).2 = (chopL n x).2) := Lib.hid (by
          have := hZ.out
          rw [chop_more (by omega) hnz] at this
          rw [List.append_assoc]; exact this)
        have he1 : Hid ((mkB z).extract 0 n = mkB (z.take n)) := Lib.hid (by rw [by_cut]; rfl)
        have he2 : Hid ((mkB z).extract n z.length = mkB (z.drop n)) := Lib.hid (by rw [by_cut]; show mkB ((z.drop n).take (z.length - n)) = _; rw [List.take_of_length_le (by simp)])
        have hbm : out2.length + 1 ≤ maxLen ∧ (out2.length + 1) * 16 ≤ 140737488355328 := by unfold maxLen; omega
        have hsz2 := hS2.out.size
        have hal : ∀ o : Obj, (wr.alloc o).cell? ⟨B + 1, 0, none⟩ = some (.slice va2 out2.length vc2) := fun o => (hS2.out.bo.alloc o).cell 0
        go_wp2_with fail
        go_region_law (first | (refine step_append_lies _ (by rfl) _ _ _ (by rfl) (B + 3) 9 i0 (.string ByteArray.empty) 1 16 Tryd.underlying24 hi hz0 hz1 hz2 rfl (by decide) (Value.slice va2 out2.length vc2) out2.length (out2.map strV) (by rfl) (hS2.out.own.alloc _) ⟨wr.heap.size, 0, none⟩ 1 1 [.string ((mkB z).extract 0 n)] (by rfl) (by rfl) (cell_one_new _ _ _) (ow_one rfl) (by decide) hbm.1 hbm.2 (ow_le hsz2 _) wr.heap.size.succ (by simp) ?_; intro gg cap w5 hown5 hgrow5 hat hlt; have hbo5 := (hS2.out.drew _).bo' hgrow5; have co5 := hbo5.1; have fo5 := hbo5.2))
        all_goals
          rw [he1.out] at hown5
          obtain ⟨w6, hw6⟩ : ∃ w6, w5.setCell ⟨B + 1, 0, none⟩ (.slice (some ⟨gg, 0, none⟩) (out2.length + 1) cap) = w6 := ⟨_, rfl⟩
          have HS6 : Hid (PuS w6 B n (.slice (some ⟨gg, 0, none⟩) (out2.length + 1) cap) line (out2 ++ [z.take n])) := Lib.hid (by rw [← hw6]; exact (hS2.out.drew _).push (x := z.take n) hgrow5 hown5)
          have HB6 : Hid (Below B w w6) := Lib.hid (by rw [← hw6]; exact bB_s ((bB_a (bl_drewN hBl2.out _) (by have := hS2.out.size; show B ≤ wr.heap.size; omega) _).grown hgrow5 (by have := hS2.out.size; rw [World.size_alloc]; show B ≤ wr.heap.size + 1; omega) (fun j hj => by have := ow_lo hS2.out.own j hj; omega)) _ _)
          rw [hw6]
          clear hw6 hown5 hgrow5 hbo5 co5 fo5 hat hlt cw co fo fl cl hal
          have cw := HS6.out.bw.cell 0
          simp only [List.getElem?_cons_zero] at cw
          go_wp2
          go_roundw
          case rel => exact ⟨_, _, z.drop n, congrArg Value.string he2.out, by simp; omega, HS6, HB6, hzc⟩
          case measure => simp; omega
      · have hzz : Hid (out2 = out ++ (chopL n x).1 ∧ z = (chopL n x).2) := Lib.hid (by
          have := hZ.out
          rw [chop_end (by omega), List.append_nil] at this; exact this)
        go_wp2
        go_end0
        refine ⟨rfl, .slice va2 out2.length vc2, ?_, bB_s hBl2.out _ _⟩
        rw [HPut.out]
        show PuS _ B n _ (chopL n x).2 (out ++ (chopL n x).1)
        rw [← hzz.out.1, ← hzz.out.2]
        exact hS2.out.setl z
  · have hlne : line.isEmpty = false := by cases line with | nil => exact absurd rfl hle | cons a b => rfl
    by_cases hfit : line.length + 1 + x.length ≤ n
    · have HPut : Hid (putO n (out, line) x = (out, line ++ 32 :: x)) := Lib.hid (by unfold putO; rw [if_pos ⟨hle, hfit⟩])
      have hcat : Hid (mkB line ++ (⟨#[32]⟩ ++ mkB x) = mkB (line ++ 32 :: x)) := Lib.hid (by
        have : (⟨#[32]⟩ : ByteArray) = mkB [32] := rfl
        rw [this, mkB_app, mkB_app]; simp)
      have hdd : decide ((line.length : Int) + 1 + (x.length : Int) ≤ (n : Int)) = true := by simp; omega
      clear hle hS
      go_enter Tryd.func23, Tryd.ntmps23
      go_wp2
      (try simp only [Exit.inBlock, Exit.then])
      (try rw [Exit.noGoto_ret])
      refine bodyPost_ret (results_none rfl _ _ _) rfl ?_
      refine ⟨rfl, .slice va out.length vc, ?_, bB_s (Below.refl B w) _ _⟩
      rw [HPut.out, hcat.out]
      exact HS.out.setl _
    · have HPut : Hid (putO n (out, line) x = (out ++ [line] ++ (chopL n x).1, (chopL n x).2)) := Lib.hid (by
        unfold putO; rw [if_neg (fun h => hfit h.2), if_pos hle])
      have hdd : decide ((line.length : Int) + 1 + (x.length : Int) ≤ (n : Int)) = false := by simp; omega
      have hbm0 : out.length + 1 ≤ maxLen ∧ (out.length + 1) * 16 ≤ 140737488355328 := by unfold maxLen; omega
      clear hle hS
      go_enter Tryd.func23, Tryd.ntmps23
      go_wp2_with (at_builtin; refine wpList_append_own _ rfl _ _ 24 rfl (B + 3) 9 i0 (.string ByteArray.empty) 1 16 Tryd.underlying24 hi hz0 hz1 hz2 rfl (by decide) _ _ _ rfl (HS.out.own.alloc _) ⟨w.heap.size, 0, none⟩ 1 1 [.string (mkB line)] rfl rfl (cell_one_new _ _ _) (ow_one rfl) hbm0.1 hbm0.2 (ow_le hsz0 _) ?_; intro v4 w4 hown4 hgrow4 _; obtain ⟨a4, c4, hv4⟩ := ow_shape hown4; subst hv4; have hbo4 := HS.out.bo' hgrow4; have co4 := hbo4.1; have fo4 := hbo4.2)
      obtain ⟨w6, hw6⟩ : ∃ w6, w4.setCell ⟨B + 1, 0, none⟩ (.slice a4 (out.length + 1) c4) = w6 := ⟨_, rfl⟩
      have HS6 : Hid (PuS w6 B n (.slice a4 (out.length + 1) c4) line (out ++ [line])) := Lib.hid (by rw [← hw6]; exact HS.out.push (x := line) hgrow4 hown4)
      have HB6 : Hid (Below B w w6) := Lib.hid (by rw [← hw6]; exact bB_s ((bB_a (Below.refl B w) (by omega) _).grown hgrow4 (by simp; omega) (fun j hj => by have := ow_lo HS.out.own j hj; omega)) _ _)
      rw [hw6]
      clear hw6 hown4 hgrow4 hbo4
      obtain ⟨wo, hwo⟩ : ∃ wo, w6 = wo := ⟨_, rfl⟩
      have HW0 := HS6
      have HB0 : Hid (Below B w wo) := by rw [← hwo]; exact HB6
      rw [hwo] at HW0 ⊢
      clear hwo
      go_loopw [0] (fun y wr2 => ∃ (v2 : Value) (out2 : List (List UInt8)) (z : List UInt8), y = .string (mkB z) ∧ out2.length + z.length ≤ 300000 ∧ Hid (PuS wr2 B n v2 line out2) ∧ Hid (Below B w wr2) ∧ Hid (out2 ++ (chopL n z).1 = (out ++ [line]) ++ (chopL n x).1 ∧ (chopL n z).2 = (chopL n x).2)) (fun y _ => match y with | .string q => q.size | _ => 0)
      case atStart => exact ⟨_, _, x, rfl, by (try simp); omega, HW0, HB0, Lib.hid ⟨rfl, rfl⟩⟩
      case round =>
        obtain ⟨v2, out2, z, rfl, hb2, hS2, hBl2, hZ⟩ := hrel
        obtain ⟨va2, vc2, hv2⟩ := ow_shape hS2.out.own
        subst hv2
        have hzs : (mkB z).size = z.length := mkB_size z
        have cw := hS2.out.bw.cell 0
        have co := hS2.out.bo.cell 0
        have fo := hS2.out.bo.fr 0
        have fl := hS2.out.bl.fr 0
        have cl := hS2.out.bl.cell 0
        simp only [List.getElem?_cons_zero] at cw co cl
        by_cases hnz : n < z.length
        · have hnz1 : (n : Int) ≤ (z.length : Int) := by omega
          have hnz0 : (0 : Int) ≤ (n : Int) := by omega
          have hzc : Hid ((out2 ++ [z.take n]) ++ (chopL n (z.drop n)).1 = (out ++ [line]) ++ (chopL n x).1 ∧ (chopL n (z.drop n)).2 = (chopL n x).2) := Lib.hid (by
            have := hZ.out
            rw [chop_more (by omega) hnz] at this
            rw [List.append_assoc]; exact this)
          have he1 : Hid ((mkB z).extract 0 n = mkB (z.take n)) := Lib.hid (by rw [by_cut]; rfl)
          have he2 : Hid ((mkB z).extract n z.length = mkB (z.drop n)) := Lib.hid (by rw [by_cut]; show mkB ((z.drop n).take (z.length - n)) = _; rw [List.take_of_length_le (by simp)])
          have hbm : out2.length + 1 ≤ maxLen ∧ (out2.length + 1) * 16 ≤ 140737488355328 := by unfold maxLen; omega
          have hsz2 := hS2.out.size
          have hal : ∀ o : Obj, (wr.alloc o).cell? ⟨B + 1, 0, none⟩ = some (.slice va2 out2.length vc2) := fun o => (hS2.out.bo.alloc o).cell 0
          go_wp2_with fail
          go_region_law (first | (refine step_append_lies _ (by rfl) _ _ _ (by rfl) (B + 3) 9 i0 (.string ByteArray.empty) 1 16 Tryd.underlying24 hi hz0 hz1 hz2 rfl (by decide) (Value.slice va2 out2.length vc2) out2.length (out2.map strV) (by rfl) (hS2.out.own.alloc _) ⟨wr.heap.size, 0, none⟩ 1 1 [.string ((mkB z).extract 0 n)] (by rfl) (by rfl) (cell_one_new _ _ _) (ow_one rfl) (by decide) hbm.1 hbm.2 (ow_le hsz2 _) wr.heap.size.succ (by simp) ?_; intro gg cap w5 hown5 hgrow5 hat hlt; have hbo5 := (hS2.out.drew _).bo' hgrow5; have co5 := hbo5.1; have fo5 := hbo5.2))
          all_goals
            rw [he1.out] at hown5
            obtain ⟨w6, hw6⟩ : ∃ w6, w5.setCell ⟨B + 1, 0, none⟩ (.slice (some ⟨gg, 0, none⟩) (out2.length + 1) cap) = w6 := ⟨_, rfl⟩
            have HS6 : Hid (PuS w6 B n (.slice (some ⟨gg, 0, none⟩) (out2.length + 1) cap) line (out2 ++ [z.take n])) := Lib.hid (by rw [← hw6]; exact (hS2.out.drew _).push (x := z.take n) hgrow5 hown5)
            have HB6 : Hid (Below B w w6) := Lib.hid (by rw [← hw6]; exact bB_s ((bB_a (bl_drewN hBl2.out _) (by have := hS2.out.size; show B ≤ wr.heap.size; omega) _).grown hgrow5 (by have := hS2.out.size; rw [World.size_alloc]; show B ≤ wr.heap.size + 1; omega) (fun j hj => by have := ow_lo hS2.out.own j hj; omega)) _ _)
            rw [hw6]
            clear hw6 hown5 hgrow5 hbo5 co5 fo5 hat hlt cw co fo fl cl hal
            have cw := HS6.out.bw.cell 0
            simp only [List.getElem?_cons_zero] at cw
            go_wp2
            go_roundw
            case rel => exact ⟨_, _, z.drop n, congrArg Value.string he2.out, by simp; omega, HS6, HB6, hzc⟩
            case measure => simp; omega
        · have hzz : Hid (out2 = (out ++ [line]) ++ (chopL n x).1 ∧ z = (chopL n x).2) := Lib.hid (by
            have := hZ.out
            rw [chop_end (by omega), List.append_nil] at this; exact this)
          go_wp2
          go_end0
          refine ⟨rfl, .slice va2 out2.length vc2, ?_, bB_s hBl2.out _ _⟩
          rw [HPut.out]
          show PuS _ B n _ (chopL n x).2 ((out ++ [line]) ++ (chopL n x).1)
          rw [← hzz.out.1, ← hzz.out.2]
          exact hS2.out.setl z
end Go.Proofs.YtfnadieccdgnnaaDoor
