/- Contracts of clewref30.fits, places, far. -/
import Derived.Test.YtbcpopakdlplgaaDoorAsmS
import Derived.Test.YtbcpopakdlplgaaDoorAsmX
import Derived.Deep.QuietTactic
import Derived.BigQuiet
namespace Go.Proofs.YtbcpopakdlplgaaDoor
open Go.RowKit Go.PlainAid Go.Maps
set_option linter.unusedVariables false
set_option linter.unusedSimpArgs false

theorem jump_len (n : Int) (h : -32768 ≤ n ∧ n ≤ 32767) : (encI ⟨24, n⟩).length = 1 + needN n := by
  have h1 : argI ⟨24, n⟩ = n := by unfold argI; rw [if_pos (show hasA 24 = true from by decide)]; exact wrap16_id h
  rw [encI_ok (show opOk 24 from by unfold opOk; omega), h1, encS_len _ _ _ (needN_le n)]
set_option maxHeartbeats 4000000 in
theorem fitsC (n : Int) (w : World) : Calls Tryd.prog 54 #[.int .i64 n] w fun e w' => e = .returned (.int .i64 (fitR n)) ∧ Below w.heap.size w w' := by
  by_cases h : -32768 ≤ n ∧ n ≤ 32767
  · have HI := Lib.hid (fun w => refIsC2 n true (by simp; omega) w)
    have hl := jump_len n h
    have HF : Hid (fitR n = needN n) := Lib.hid (by unfold fitR; rw [if_pos h])
    have HE := Lib.hid (fun w => refEncC ⟨24, n⟩ w)
    obtain ⟨E, hE⟩ : ∃ E, encI ⟨24, n⟩ = E := ⟨_, rfl⟩
    rw [hE] at hl HE
    have hnd := needN_le n
    obtain ⟨m, hm⟩ : ∃ m, needN n = m := ⟨_, rfl⟩
    rw [hm] at hl HF hnd
    have HL := Lib.hid hl
    clear hE hm hl h
    go_enter Tryd.func54, Tryd.ntmps54
    go_wp2_with (first | (go_at_call 53; refine (HI.out _).mono ?_; rintro e w' ⟨rfl, rfl⟩) | (go_at_call 36; refine (HE.out _).mono ?_; rintro e w2 ⟨v, rfl, ho, hb⟩; obtain ⟨a, c, rfl⟩ := ow_shape ho; rw [HL.out]; have HB := Lib.hid hb; clear ho hb) | (fail))
    go_ret
    exact ⟨ret_i (by rw [HF.out]; omega), HB.out⟩
  · have HI := Lib.hid (fun w => refIsC2 n false (by simp; omega) w)
    have HF : Hid (fitR n = 3) := Lib.hid (by unfold fitR; rw [if_neg h])
    clear h
    go_enter Tryd.func54, Tryd.ntmps54
    go_wp2_with (go_at_call 53; refine (HI.out _).mono ?_; rintro e w' ⟨rfl, rfl⟩)
    go_ret
    exact ⟨ret_i (by rw [HF.out]; rfl), Below.refl _ _⟩
def plL (W : Nat → Nat) (k : Nat) : List Int := (List.range k).map fun i => (posN W i : Int)
theorem plL_len (W : Nat → Nat) (k : Nat) : (plL W k).length = k := by simp [plL]
theorem plL_succ (W : Nat → Nat) (k : Nat) : plL W (k + 1) = plL W k ++ [(posN W k : Int)] := by unfold plL; rw [List.range_succ, List.map_append]; rfl
theorem plL_at {W : Nat → Nat} {k i : Nat} (h : i < k) : (plL W k)[i]? = some (posN W i : Int) := by unfold plL; rw [List.getElem?_map, List.getElem?_range h]; rfl
set_option maxRecDepth 100000 in
set_option maxHeartbeats 8000000 in
theorem placesC (v : Value) (l : List IN) (S : Nat → Nat) (n gz : Nat) (w : World) (hr : Reads Cd.ins.seq w v l) (hn : l.length = n) (hl : n ≤ 1000) (hS : ∀ i, S i ≤ 2) (hz : BK w gz (rowF n (fun i => (S i : Int))) 3) :
    Calls Tryd.prog 35 #[v, .slice (some ⟨gz, 0, none⟩) n n] w fun e w' => ∃ v', e = .returned v' ∧ OwN w' w.heap.size v' (plL (WS l S) (n + 1)) ∧ Below w.heap.size w w' := by
  obtain ⟨ad, c, hv, hcap, _⟩ := hr.len
  subst hv
  rw [hn] at hcap ⊢
  have HC := Lib.hid (cells_of hr).1
  have HN := Lib.hid hn
  have HZ := Lib.hid hz
  have hp3 := posN_three (WS_three (l := l) hS)
  have HP3 := Lib.hid hp3
  have HS := Lib.hid hS
  obtain ⟨j0, hj, hy1', hy2', hy3'⟩ := info_parts Tryd.infoInt
  clear hr hn hz hp3 hS
  go_enter Tryd.func35, Tryd.ntmps35
  go_wp2
  go_loopw [5, 6, 7] (fun s u i wr => ∃ k : Nat, i = .int .i64 k ∧ k ≤ n ∧ s = .int .i64 (posN (WS l S) k) ∧ Hid (OwN wr w.heap.size u (plL (WS l S) k)) ∧ Hid (Below w.heap.size w wr)) (fun _ _ i _ => n - (intOf i).toNat)
  case atStart => exact ⟨0, rfl, Nat.zero_le _, rfl, Lib.hid (OwN.nil _ _), Lib.hid (Below.refl _ _)⟩
  case round =>
    obtain ⟨k, rfl, hk, rfl, HO, HB⟩ := hrel
    have hps := HP3.out k
    obtain ⟨va, vc, hv⟩ := ow_shape HO.out
    rw [plL_len] at hv
    subst hv
    have HO2 : Hid (wr.ownsRow w.heap.size 3 1 (.slice va k vc) k ((plL (WS l S) k).map (Value.int .i64))) := Lib.hid (by have := HO.out; unfold OwN at this; rw [plL_len] at this; exact this)
    have hsz := HB.out.size
    have hbd : k + 1 ≤ maxLen ∧ (k + 1) * 8 ≤ 140737488355328 := by unfold maxLen; omega
    have HPS : Hid (posN (WS l S) (k + 1) = posN (WS l S) k + WS l S k) := Lib.hid rfl
    have HPL := Lib.hid (plL_succ (WS l S) k)
    obtain ⟨p, hp⟩ : ∃ p, posN (WS l S) k = p := ⟨_, rfl⟩
    rw [hp] at hps HPS HPL ⊢
    have HPP := Lib.hid hp
    clear hp
    by_cases hlt : k < n
    · have hkl : k < l.length := by rw [HN.out]; exact hlt
      obtain ⟨b, off, ha, hblt, hw, hx0, hx1⟩ := HC.out k hkl
      subst ha
      have hat : atI l k = l[k] := atI_get hkl
      obtain ⟨x, hx⟩ : ∃ x, l[k] = x := ⟨_, rfl⟩
      rw [hx] at hw hx0 hx1 hat
      have HAT := Lib.hid hat
      have hgz := HZ.out.lt
      have Z0 := Lib.hid (HZ.out.cell k)
      have X0 := Lib.hid hx0
      have X1 := Lib.hid hx1
      have hk0 : (0 : Int) ≤ (k : Int) := by omega
      have hk1 : (k : Int) < (n : Int) := by omega
      have hs2 := HS.out k
      clear hx hat hx0 hx1
      cases hjx : isJ x with
      | true =>
        have HJ := Lib.hid (fun w => jumpsC2 x true hjx w)
        have HWk : Hid (WS l S k = 1 + S k) := Lib.hid (by unfold WS widN; rw [HAT.out, if_pos hjx])
        clear hjx
        go_wp2_with (first | (at_builtin; refine wpList_append_own _ rfl _ _ 50 rfl w.heap.size 3 j0 (.int .i64 0) 1 8 Tryd.underlying50 hj hy1' hy2' hy3' rfl (by decide) (.slice va k vc) k ((plL (WS l S) k).map (Value.int .i64)) rfl (ow_below HO2.out (bl_one wr _)) ⟨wr.heap.size, 0, none⟩ 1 1 [.int .i64 (p : Int)] rfl rfl (news_lit wr [.int .i64 (p : Int)] _) (ow_one rfl) hbd.1 hbd.2 (by simp; omega) ?_; intro v5 w5 hown5 hgrow5 _; have HO5 : Hid (OwN w5 w.heap.size v5 (plL (WS l S) (k + 1))) := Lib.hid (by rw [HPL.out]; exact OwN.snoc (by rw [plL_len]; exact hown5)); have HB5 := Lib.hid ((bl_a HB.out (.cells #[.int .i64 (p : Int)] 3)).grown hgrow5 (bl_a HB.out _).size (fun j hj => ow_lo HO2.out j hj)); have x0 := (HB5.out.cell (p := ⟨b, off + k * 2, none⟩) hblt).trans X0.out; have x1 := (HB5.out.cell (p := ⟨b, off + k * 2 + 1, none⟩) hblt).trans X1.out; clear hown5 hgrow5) | (go_at_call 26; refine (HJ.out _).mono ?_; rintro e w6 ⟨rfl, hb6⟩; have HB6 := Lib.hid (bl_thenA HB5.out hb6); have HO6 := Lib.hid (ow_below HO5.out hb6); have z0 := (HB6.out.cell (p := ⟨gz, k, none⟩) hgz).trans Z0.out; rw [rowF_at hlt] at z0; clear hb6) | (fail))
        go_roundw
        case rel => exact ⟨k + 1, by go_num, by omega, by rw [HPS.out, HWk.out]; go_num, HO6, HB6⟩
        case measure => simp [intOf]; omega
      | false =>
        have HJ := Lib.hid (fun w => jumpsC2 x false hjx w)
        have HEN := Lib.hid (fun w => refEncC x w)
        have HWk : Hid (WS l S k = (encI x).length) := Lib.hid (by unfold WS widN; rw [HAT.out, if_neg (by simp [hjx])]; rfl)
        have hel : (encI x).length ≤ 3 := by rw [← HWk.out]; exact WS_three HS.out k
        obtain ⟨E, hE⟩ : ∃ E, encI x = E := ⟨_, rfl⟩
        rw [hE] at HEN HWk hel
        obtain ⟨m, hm⟩ : ∃ m, E.length = m := ⟨_, rfl⟩
        rw [hm] at HWk hel
        have HM := Lib.hid hm
        clear hjx hE hm
        go_wp2_with (first | (at_builtin; refine wpList_append_own _ rfl _ _ 50 rfl w.heap.size 3 j0 (.int .i64 0) 1 8 Tryd.underlying50 hj hy1' hy2' hy3' rfl (by decide) (.slice va k vc) k ((plL (WS l S) k).map (Value.int .i64)) rfl (ow_below HO2.out (bl_one wr _)) ⟨wr.heap.size, 0, none⟩ 1 1 [.int .i64 (p : Int)] rfl rfl (news_lit wr [.int .i64 (p : Int)] _) (ow_one rfl) hbd.1 hbd.2 (by simp; omega) ?_; intro v5 w5 hown5 hgrow5 _; have HO5 : Hid (OwN w5 w.heap.size v5 (plL (WS l S) (k + 1))) := Lib.hid (by rw [HPL.out]; exact OwN.snoc (by rw [plL_len]; exact hown5)); have HB5 := Lib.hid ((bl_a HB.out (.cells #[.int .i64 (p : Int)] 3)).grown hgrow5 (bl_a HB.out _).size (fun j hj => ow_lo HO2.out j hj)); have x0 := (HB5.out.cell (p := ⟨b, off + k * 2, none⟩) hblt).trans X0.out; have x1 := (HB5.out.cell (p := ⟨b, off + k * 2 + 1, none⟩) hblt).trans X1.out; clear hown5 hgrow5) | (go_at_call 26; refine (HJ.out _).mono ?_; rintro e w6 ⟨rfl, hb6⟩; have HB6 := Lib.hid (bl_thenA HB5.out hb6); have HO6 := Lib.hid (ow_below HO5.out hb6); have x0 := (HB6.out.cell (p := ⟨b, off + k * 2, none⟩) hblt).trans X0.out; have x1 := (HB6.out.cell (p := ⟨b, off + k * 2 + 1, none⟩) hblt).trans X1.out; clear hb6) | (go_at_call 36; refine (HEN.out _).mono ?_; rintro e w7 ⟨v7, rfl, ho7, hb7⟩; obtain ⟨a7, c7, rfl⟩ := ow_shape ho7; rw [HM.out]; have HB7 := Lib.hid (bl_thenA HB6.out hb7); have HO7 := Lib.hid (ow_below HO6.out hb7); clear ho7 hb7) | (fail))
        go_roundw
        case rel => exact ⟨k + 1, by go_num, by omega, by rw [HPS.out, HWk.out]; go_num, HO7, HB7⟩
        case measure => simp [intOf]; omega
    · have hkn : k = n := by omega
      subst hkn
      go_wp2_with (at_builtin; refine wpList_append_own _ rfl _ _ 50 rfl w.heap.size 3 j0 (.int .i64 0) 1 8 Tryd.underlying50 hj hy1' hy2' hy3' rfl (by decide) (.slice va k vc) k ((plL (WS l S) k).map (Value.int .i64)) rfl (ow_below HO2.out (bl_one wr _)) ⟨wr.heap.size, 0, none⟩ 1 1 [.int .i64 (p : Int)] rfl rfl (news_lit wr [.int .i64 (p : Int)] _) (ow_one rfl) hbd.1 hbd.2 (by simp; omega) ?_; intro v5 w5 hown5 hgrow5 _; have HO5 : Hid (OwN w5 w.heap.size v5 (plL (WS l S) (k + 1))) := Lib.hid (by rw [HPL.out]; exact OwN.snoc (by rw [plL_len]; exact hown5)); have HB5 := Lib.hid ((bl_a HB.out (.cells #[.int .i64 (p : Int)] 3)).grown hgrow5 (bl_a HB.out _).size (fun j hj => ow_lo HO2.out j hj)); clear hown5 hgrow5)
      go_ret
      exact ⟨_, rfl, HO5.out, HB5.out⟩
end Go.Proofs.YtbcpopakdlplgaaDoor
