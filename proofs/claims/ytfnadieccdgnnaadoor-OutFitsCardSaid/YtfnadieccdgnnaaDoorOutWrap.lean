/- Contract of out.Wrap. -/
import Derived.Test.YtfnadieccdgnnaaDoorOutPar
namespace Go.Proofs.YtfnadieccdgnnaaDoor
open Go.RowKit Go.PlainAid
set_option linter.unusedVariables false
set_option linter.unusedSimpArgs false

theorem wrap_cons (n : Nat) (x r l : List UInt8) (h : linesO l = x :: linesO r) : wrapO n l = parO n (wordsO x) ++ wrapO n r := by
  unfold wrapO; rw [h]; simp
set_option maxRecDepth 100000 in
set_option maxHeartbeats 8000000 in
theorem outWrap (s : ByteArray) (width m : Int) (w : World) (hs : s.size ≤ 100000) (hm : w.cell? ⟨0, 0, none⟩ = some (.int .i64 m)) (h0 : 0 < w.heap.size) :
    Calls Tryd.prog 9 #[.string s, .int .i64 width] w fun e w' => ∃ v, e = .returned v ∧ OwS w' w.heap.size v (wrapO (wideN width) s.data.toList) ∧ Below w.heap.size w w' := by
  obtain ⟨i0, hi, hz0, hz1, hz2⟩ := info_parts Tryd.infoStr
  have hwb := wide_bd width
  obtain ⟨l0, hl0⟩ : ∃ l0, s.data.toList = l0 := ⟨_, rfl⟩
  have hsb : s = mkB l0 := by rw [← hl0]; exact (mkB_of s).symm
  have hll0 : l0.length ≤ 100000 := by rw [← hl0, by_len]; exact hs
  rw [hl0]
  clear hl0
  subst hsb
  obtain ⟨F, hF⟩ : ∃ F, wrapO (wideN width) l0 = F := ⟨_, rfl⟩
  have HF := Lib.hid hF
  rw [hF]
  clear hF
  obtain ⟨B, hB⟩ : ∃ B, w.heap.size = B := ⟨_, rfl⟩
  rw [hB] at h0
  have HW := Lib.hid (fun w => outWide width w)
  obtain ⟨n, hn⟩ : ∃ n, wideN width = n := ⟨_, rfl⟩
  rw [hn] at hwb HF HW
  have HB : Hid (w.heap.size = B) := Lib.hid hB
  clear hn hB
  go_enter Tryd.func9, Tryd.ntmps9
  go_wp2
  go_loopw [0, 5] (fun y v wr => ∃ (l : List UInt8) (out : List (List UInt8)), y = .string (mkB l) ∧ out.length + 3 * l.length ≤ 300000 ∧ Hid (OwS wr B v out) ∧ Hid (Below B w wr) ∧ Hid (out ++ wrapO n l = F)) (fun y _ _ => match y with | .string q => q.size | _ => 0)
  case atStart => exact ⟨l0, [], rfl, by simp; omega, Lib.hid (OwS.nil _ _), Lib.hid (Below.refl _ _), HF⟩
  case round =>
    obtain ⟨l, out, rfl, hbd, hS, hBl, hFo⟩ := hrel
    have hlt := mkB_toList l
    obtain ⟨va, vc, hv⟩ := ow_shape hS.out
    subst hv
    by_cases hte : l = []
    · have hte1 : l.isEmpty = true := by rw [hte]; rfl
      have hFe : Hid (out = F) := Lib.hid (by have := hFo.out; rw [hte, show wrapO n [] = [] from by unfold wrapO; rw [lines_nil]; rfl, List.append_nil] at this; exact this)
      clear hte
      go_wp2
      go_ret
      exact ⟨_, rfl, by rw [← hFe.out, HB.out]; exact hS.out, by rw [HB.out]; exact hBl.out⟩
    · have hte1 : l.isEmpty = false := by cases l with | nil => exact absurd rfl hte | cons a b => rfl
      obtain ⟨hx0, hx1, hx2, hx3⟩ := cut_lines l hte
      have hmr : wr.cell? ⟨0, 0, none⟩ = some (.int .i64 m) := (hBl.out.cell (p := ⟨0, 0, none⟩) h0).trans hm
      have HCut := Lib.hid (fun w hm => outCutB l 10 m w (by omega) hm)
      obtain ⟨x, hx⟩ : ∃ x, (Lib.cut l [10]).1 = x := ⟨_, rfl⟩
      obtain ⟨r, hr⟩ : ∃ r, (Lib.cut l [10]).2.1 = r := ⟨_, rfl⟩
      obtain ⟨ok, hok⟩ : ∃ r, (Lib.cut l [10]).2.2 = r := ⟨_, rfl⟩
      rw [hx, hr, hok] at HCut
      rw [hx, hr] at hx1 hx2
      rw [hr] at hx3
      have hsz := hBl.out.size
      rw [HB.out] at hsz
      have h0r : 0 < wr.heap.size := by omega
      have HPar := Lib.hid (fun w hm h0 => outPar (mkB x) n m w (by rw [mkB_size]; omega) hwb.1 hwb.2 hm h0)
      have hpl := par_len n x
      obtain ⟨Y, hY⟩ : ∃ Y, parO n (wordsO x) = Y := ⟨_, rfl⟩
      have HF2 : Hid ((out ++ Y) ++ wrapO n r = F) := Lib.hid (by have := hFo.out; rw [wrap_cons n x r l hx1, hY] at this; rw [List.append_assoc]; exact this)
      have HY := Lib.hid hY
      rw [hY] at hpl
      have hbmm : out.length + (Y.map strV).length ≤ maxLen ∧ (out.length + (Y.map strV).length) * 16 ≤ 140737488355328 := by rw [List.length_map]; unfold maxLen; omega
      have hYm : Y.length ≤ maxLen := by unfold maxLen; omega
      have hone : ∀ u ∈ Y.map strV, u.oneCell' = true := fun u hu => by obtain ⟨z, _, rfl⟩ := List.mem_map.1 hu; rfl
      clear hx hr hok hte hx0 hx1 hY
      go_wp2_with (first
        | (go_at_call 15; refine (HCut.out _ hmr).mono ?_; rintro e w2 ⟨rfl, nn, rfl⟩)
        | (go_at_call 17; refine (HW.out _).mono ?_; rintro e w3 ⟨rfl, rfl⟩)
        | (go_at_call 16; refine (HPar.out (wr.drewN nn) hmr h0r).mono ?_; rintro e w4 ⟨v4, rfl, ho4, hb4⟩; have hb4' : Below wr.heap.size wr w4 := bl_drewN2 hb4; clear hb4; replace ho4 : OwS w4 wr.heap.size v4 Y := (by rw [← HY.out]; exact ho4); have hSL := ho4.sl hYm; have hown4 := ow_below (w := wr) hS.out hb4'; have hsz4 := Nat.le_trans hsz hb4'.size; have Hb4 := Lib.hid hb4'; clear hb4')
        | (at_builtin; refine wpList_append_SL rfl _ _ 24 rfl B 9 i0 (.string ByteArray.empty) 16 Tryd.underlying24 hi hz0 hz1 hz2 rfl _ out.length (out.map strV) rfl hown4 _ (Y.map strV) rfl hSL hone hbmm.1 hbmm.2 hsz4 ?_; intro v5 w5 hown5 hgrow5))
      have HS5 : Hid (OwS w5 B v5 (out ++ Y)) := Lib.hid (by unfold OwS; simpa using hown5)
      have HB5 : Hid (Below B w w5) := Lib.hid ((hBl.out.trans (Hb4.out.mono hsz)).grown hgrow5 hsz4 (ow_lo hS.out))
      clear hown5 hgrow5 hSL hown4
      go_roundw
      case rel => exact ⟨r, _, rfl, by simp; omega, HS5, HB5, HF2⟩
      case measure => show (mkB r).size < (mkB l).size; rw [mkB_size, mkB_size]; omega
end Go.Proofs.YtfnadieccdgnnaaDoor
