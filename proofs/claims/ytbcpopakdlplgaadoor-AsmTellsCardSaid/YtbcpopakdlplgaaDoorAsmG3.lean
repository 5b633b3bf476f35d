/- Contract of clewref30.Assemble. -/
import Derived.Test.YtbcpopakdlplgaaDoorAsmG2
import Derived.Test.YtbcpopakdlplgaaDoorAsmZ
import Derived.Test.YtbcpopakdlplgaaDoorAsmR
namespace Go.Proofs.YtbcpopakdlplgaaDoor
open Go.RowKit Go.PlainAid Go.Maps
set_option linter.unusedVariables false
set_option linter.unusedSimpArgs false

theorem wrong_at {l : List IN} {k : Nat} (hk : k < l.length) : wrongGo l (l.take k) (l.drop k) = if wrongAt l (l.take k) l[k] = 0 then wrongGo l (l.take (k + 1)) (l.drop (k + 1)) else wrongAt l (l.take k) l[k] := by
  rw [List.drop_eq_getElem_cons hk, wrong_step, take_snocI l k hk]
theorem refEncC_L (x : IN) (hx : isL x = true) (w : World) : Calls Tryd.prog 36 #[insV x] w fun e w' => e = .returned (.slice none 0 0) ∧ Below w.heap.size w w' := by
  have h38 : x.op = 38 := by unfold isL at hx; simpa using hx
  unfold insV
  rw [h38]
  go_enter Tryd.func36, Tryd.ntmps36
  go_wp2
  go_ret
  exact ⟨rfl, bl_a (Below.refl _ _) _⟩
theorem own_some {w w0 : World} {B : Nat} {v : Value} {L : List UInt8} (h0 : 0 < L.length) (h2 : OwB w B v L) : ∃ g c, v = .slice (some ⟨g, 0, none⟩) L.length c ∧ (∀ i (hi : i < L.length), w.cell? ⟨g, 0 + i, none⟩ = some (byteV L[i])) := by
  rcases h2.2 with ⟨_, h0'⟩ | ⟨g, cap, cur, hv, _⟩
  · omega
  · subst hv
    refine ⟨g, cap, rfl, fun i hi => ?_⟩
    have := World.ownsRow.cellAt h2 i (by omega)
    rw [Nat.zero_add, this, List.getElem?_map, List.getElem?_eq_getElem hi]; rfl
theorem refEncC_E (x : IN) (E : List UInt8) (m : Nat) (hx : opOk x.op) (hE : encI x = E) (hm : E.length = m) (w : World) : Calls Tryd.prog 36 #[insV x] w fun e w' => ∃ g c, e = .returned (.slice (some ⟨g, 0, none⟩) m c) ∧ (∀ i (hi : i < E.length), w'.cell? ⟨g, 0 + i, none⟩ = some (byteV E[i])) ∧ Below w.heap.size w w' := by
  subst hE; subst hm
  exact (refEncC x w).mono fun e w' ⟨v, h1, h2, h3⟩ => by
    have hlen : 0 < (encI x).length := by rw [encI_ok hx]; simp [encS]
    obtain ⟨g, c, rfl, h4⟩ := own_some (w0 := w) hlen h2
    exact ⟨g, c, h1, h4, h3⟩
theorem jumpC_E (op n : Int) (s : Nat) (E : List UInt8) (hs : s ≤ 2) (ho : 0 ≤ 4 * op + s ∧ 4 * op + s ≤ 255) (hE : encS op n s = E) (w : World) : Calls Tryd.prog 37 #[.int .i64 op, .int .i64 n, .int .i64 s] w fun e w' => ∃ g c, e = .returned (.slice (some ⟨g, 0, none⟩) (1 + s) c) ∧ (∀ i (hi : i < E.length), w'.cell? ⟨g, 0 + i, none⟩ = some (byteV E[i])) ∧ Below w.heap.size w w' := by
  subst hE
  exact (jumpC op n s w hs ho).mono fun e w' ⟨v, h1, h2, h3⟩ => by
    have hlen := encS_len op n s hs
    obtain ⟨g, c, rfl, h4⟩ := own_some (w0 := w) (by omega) h2
    rw [hlen] at h1
    exact ⟨g, c, h1, h4, h3⟩
set_option maxRecDepth 100000 in
set_option maxHeartbeats 8000000 in
theorem refAsmBad (v : Value) (l : List IN) (w : World) (hr : Reads Cd.ins.seq w v l) (hl : l.length ≤ 1000) (x : Int) (hw0 : wrongP l = x) (hx : x ≠ 0) :
    Calls Tryd.prog 15 #[v] w fun e w' => e = .returned (.tuple #[.slice none 0 0, .int .i64 x]) ∧ Below w.heap.size w w' := by
  obtain ⟨a, c, hv, hcap, _⟩ := hr.len
  subst hv
  have HR := Lib.hid hr
  have HX := Lib.hid hx
  have HW := Lib.hid (fun k w' h hk => refWrongC (.slice a l.length c) l k w' h hk (by omega))
  have HW1 : Hid (wrongGo l (l.take 0) (l.drop 0) = x) := Lib.hid hw0
  obtain ⟨n, hn⟩ : ∃ n, l.length = n := ⟨_, rfl⟩
  have HN := Lib.hid hn
  have HWn : Hid (∀ (k : Nat) (w' : World) (h : Reads Cd.ins.seq w' (.slice a n c) l) (hk : k < l.length), Calls Tryd.prog 33 #[.slice a n c, .int .i64 k] w' fun e w'' => e = .returned (.int .i64 (wrongAt l (l.take k) l[k])) ∧ Below w'.heap.size w' w'') := Lib.hid (by rw [← hn]; exact HW.out)
  rw [hn] at hcap HR ⊢
  clear hr hn hw0 hx HW
  go_enter Tryd.func15, Tryd.ntmps15
  go_wp2
  go_loopw [4] (fun i wr => ∃ k : Nat, i = .int .i64 k ∧ k ≤ n ∧ Hid (wrongGo l (l.take k) (l.drop k) = x) ∧ Hid (Below w.heap.size w wr)) (fun i _ => n - (intOf i).toNat)
  case atStart => exact ⟨0, rfl, Nat.zero_le _, HW1, Lib.hid (Below.refl _ _)⟩
  case round =>
    obtain ⟨k, rfl, hk, HG, HB⟩ := hrel
    by_cases hlt : k < n
    · have hkl : k < l.length := by rw [HN.out]; exact hlt
      have HC := Lib.hid (HWn.out k wr (HR.out.below HB.out) hkl)
      have hg := HG.out
      rw [wrong_at hkl] at hg
      obtain ⟨y, hy⟩ : ∃ y, wrongAt l (l.take k) l[k] = y := ⟨_, rfl⟩
      rw [hy] at HC hg
      clear hy
      have a0 : (0 : Int) ≤ (k : Int) := by omega
      have a1 : (k : Int) < (n : Int) := by omega
      by_cases hy0 : y = 0
      · rw [if_pos hy0] at hg
        subst hy0
        have HG2 := Lib.hid hg
        clear hg
        go_wp2_with (first | (go_at_call 33; refine HC.out.mono ?_; rintro e w1 ⟨rfl, hb1⟩; have HB1 := Lib.hid (bl_thenA HB.out hb1); clear hb1) | (fail))
        go_roundw
        case rel => exact ⟨k + 1, by go_num, by omega, HG2, HB1⟩
        case measure => simp [intOf]; omega
      · rw [if_neg hy0] at hg
        rw [hg] at HC hy0
        have hne : (x != 0) = true := by simpa using hy0
        clear hg
        go_wp2_with (first | (go_at_call 33; refine HC.out.mono ?_; rintro e w1 ⟨rfl, hb1⟩; have HB1 := Lib.hid (bl_thenA HB.out hb1); clear hb1) | (fail))
        go_ret2
        exact ⟨rfl, HB1.out⟩
    · exfalso
      have h := HG.out
      rw [List.drop_of_length_le (by rw [HN.out]; omega), wrongGo] at h
      exact HX.out h.symm
set_option maxRecDepth 100000 in
set_option maxHeartbeats 8000000 in
theorem refAsmOk (v : Value) (l : List IN) (w : World) (hr : Reads Cd.ins.seq w v l) (hl : l.length ≤ 1000) (hw0 : wrongP l = 0) :
    Calls Tryd.prog 15 #[v] w fun e w' => ∃ b v', asmP l = .inr b ∧ e = .returned (.tuple #[v', .int .i64 0]) ∧ OwB w' w.heap.size v' b ∧ Below w.heap.size w w' := by
  obtain ⟨a, c, hv, hcap, _⟩ := hr.len
  subst hv
  have HR := Lib.hid hr
  have HOK := Lib.hid (wrong_ok hw0).2
  have HAP := Lib.hid (fun S h => asmP_sz (l := l) (S := S) h hw0)
  have HW := Lib.hid (fun k w' h hk => refWrongC (.slice a l.length c) l k w' h hk (by omega))
  have HW1 : Hid (wrongGo l (l.take 0) (l.drop 0) = 0) := Lib.hid hw0
  obtain ⟨n, hn⟩ : ∃ n, l.length = n := ⟨_, rfl⟩
  have HN := Lib.hid hn
  have HO : Hid (∀ k, k < n → isJ (atI l k) = true → 0 ≤ stndGo (atI l k).arg l 0) := Lib.hid (fun k hk hj => by
    have hkl : k < l.length := by omega
    rw [atI_get hkl] at hj ⊢
    rw [wrongP] at hw0
    exact (stnd_neg l _).2 ((wrong_go l l [] hw0).1 _ (List.getElem_mem hkl) hj))
  have HWn : Hid (∀ (k : Nat) (w' : World) (h : Reads Cd.ins.seq w' (.slice a n c) l) (hk : k < l.length), Calls Tryd.prog 33 #[.slice a n c, .int .i64 k] w' fun e w'' => e = .returned (.int .i64 (wrongAt l (l.take k) l[k])) ∧ Below w'.heap.size w' w'') := Lib.hid (by rw [← hn]; exact HW.out)
  rw [hn] at hl hcap HR ⊢
  clear hr hn hw0 HW
  go_enter Tryd.func15, Tryd.ntmps15
  go_wp2
  go_loopw [4] (fun i wr => ∃ k : Nat, i = .int .i64 k ∧ k ≤ n ∧ Hid (wrongGo l (l.take k) (l.drop k) = 0) ∧ Hid (Below w.heap.size w wr)) (fun i _ => n - (intOf i).toNat)
  case atStart => exact ⟨0, rfl, Nat.zero_le _, HW1, Lib.hid (Below.refl _ _)⟩
  case round =>
    obtain ⟨k, rfl, hk, HG, HB⟩ := hrel
    by_cases hlt : k < n
    · have hkl : k < l.length := by rw [HN.out]; exact hlt
      have HC := Lib.hid (HWn.out k wr (HR.out.below HB.out) hkl)
      have hg := HG.out
      rw [wrong_at hkl] at hg
      obtain ⟨y, hy⟩ : ∃ y, wrongAt l (l.take k) l[k] = y := ⟨_, rfl⟩
      rw [hy] at HC hg
      clear hy
      have a0 : (0 : Int) ≤ (k : Int) := by omega
      have a1 : (k : Int) < (n : Int) := by omega
      by_cases hy0 : y = 0
      · rw [if_pos hy0] at hg
        subst hy0
        have HG2 := Lib.hid hg
        clear hg
        go_wp2_with (first | (go_at_call 33; refine HC.out.mono ?_; rintro e w1 ⟨rfl, hb1⟩; have HB1 := Lib.hid (bl_thenA HB.out hb1); clear hb1) | (fail))
        go_roundw
        case rel => exact ⟨k + 1, by go_num, by omega, HG2, HB1⟩
        case measure => simp [intOf]; omega
      · rw [if_neg hy0] at hg
        exact absurd hg hy0
    · have hkn : n = k := by omega
      subst hkn
      have HSZ := Lib.hid (fun w' h => sizesRC (.slice a n c) l n w' h HN.out hl HO.out)
      go_wp2_with (first | (go_at_call 34; refine (HSZ.out _ (HR.out.below HB.out)).mono ?_; rintro e w1 ⟨gz, S, rfl, hz1, hsz1, hb1, _⟩; have HB1 := Lib.hid (bl_thenA HB.out hb1); have HZ1 := Lib.hid hz1; have HS1 := Lib.hid hsz1; have HS2 : Hid (∀ i, S i ≤ 2) := Lib.hid (fun i => tight_two _ _ _ hsz1.tight i); clear hz1 hsz1 hb1) | (go_at_call 35; refine (placesC (.slice a n c) l S n gz w1 (HR.out.below HB1.out) HN.out hl HS2.out HZ1.out).mono ?_; rintro e w2 ⟨v2, rfl, ho2, hb2⟩; have HP2 := Lib.hid ho2; obtain ⟨gp, cp, hv2, _, _, dn⟩ := ho2.at (plL_len _ _) n (by omega) _ (plL_at (by omega)); subst hv2; have pn := posN_three (WS_three (l := l) HS2.out) n; have HB2 := Lib.hid (bl_thenA HB1.out hb2); have HZ2 := Lib.hid (HZ1.out.below hb2); clear ho2 hb2) | (fail))
      clear dn pn
      obtain ⟨i0, hi, hy0, hy1, hy2⟩ := info_parts Tryd.infoByte
      have HR2 := Lib.hid (HR.out.below HB2.out)
      have HC2 := Lib.hid (cells_of HR2.out).1
      go_loopw [8, 9] (fun v i wr => ∃ (k : Nat) (L : List UInt8), i = .int .i64 k ∧ k ≤ n ∧ L.length ≤ 3 * k ∧ Hid (OwB wr w2.heap.size v L) ∧ Hid (Below w2.heap.size w2 wr) ∧ Hid (L ++ codeGo (farL l S) S (l.drop k) k = codeGo (farL l S) S l 0)) (fun _ i _ => n - (intOf i).toNat)
      case atStart => exact ⟨0, [], rfl, Nat.zero_le _, by simp, Lib.hid (OwB.nil _ _), Lib.hid (Below.refl _ _), Lib.hid rfl⟩
      case round =>
        obtain ⟨k, L, rfl, hk, hLk, HOw, HB3, HE⟩ := hrel
        by_cases hlt : k < n
        · have hkl : k < l.length := by rw [HN.out]; exact hlt
          obtain ⟨b, off, ha, hblt, hw, hc0, hc1⟩ := HC2.out k hkl
          have hat : atI l k = l[k] := atI_get hkl
          subst ha
          have hok := HOK.out l[k] (List.getElem_mem hkl)
          have hE := HE.out
          rw [List.drop_eq_getElem_cons hkl] at hE
          obtain ⟨x, hx⟩ : ∃ x, l[k] = x := ⟨_, rfl⟩
          rw [hx] at hw hc0 hc1 hat hok hE
          have HAT := Lib.hid hat
          have HEx := Lib.hid hE
          have HX := Lib.hid hok
          have X0 := Lib.hid hc0
          have X1 := Lib.hid hc1
          have x0 := (HB3.out.cell (p := ⟨b, off + k * 2, none⟩) hblt).trans hc0
          have x1 := (HB3.out.cell (p := ⟨b, off + k * 2 + 1, none⟩) hblt).trans hc1
          have hgz := HZ2.out.lt
          have Z0 := Lib.hid (HZ2.out.cell k)
          have hzz := HB3.out.size
          obtain ⟨p, hp⟩ : ∃ p, L.length = p := ⟨_, rfl⟩
          have HPL := Lib.hid hp
          obtain ⟨va, vc, hv⟩ := ow_shape HOw.out
          rw [hp] at hLk hv
          subst hv
          have HOr : Hid (wr.ownsRow w2.heap.size 5 1 (.slice va p vc) p (L.map byteV)) := Lib.hid (by have := HOw.out; unfold OwB at this; rw [hp] at this; exact this)
          have hk0 : (0 : Int) ≤ (k : Int) := by omega
          have hk1 : (k : Int) < (n : Int) := by omega
          clear hat hx hE HE hok hp hc0 hc1
          cases hj : isJ x with
          | false =>
            have HJ := Lib.hid (fun w => jumpsC2 x false hj w)
            cases hL : isL x with
            | true =>
              have HEL := Lib.hid (fun w => refEncC_L x hL w)
              have HE2 : Hid (L ++ codeGo (farL l S) S (l.drop (k + 1)) (k + 1) = codeGo (farL l S) S l 0) := Lib.hid (by
                have := HEx.out
                rw [codeGo, itemB, if_neg (by simp [hj]), encI_label hL] at this
                simpa using this)
              clear hj hL
              go_wp2_with (first | (go_at_call 26; refine (HJ.out _).mono ?_; rintro e w3 ⟨rfl, hb3⟩; have HB4 : Hid (Below w2.heap.size w2 w3) := Lib.hid (bl_thenA HB3.out hb3); have HO4 := Lib.hid (ow_below HOr.out hb3); have x0 := (HB4.out.cell (p := ⟨b, off + k * 2, none⟩) hblt).trans X0.out; have x1 := (HB4.out.cell (p := ⟨b, off + k * 2 + 1, none⟩) hblt).trans X1.out; clear hb3) | (go_at_call 36; refine (HEL.out _).mono ?_; rintro e w4 ⟨rfl, hb4⟩; have HB5 := Lib.hid (bl_thenA HB4.out hb4); have HO5 := Lib.hid (ow_below HO4.out hb4); clear hb4) | (at_builtin; refine wpList_append_own_none rfl _ _ _ rfl w2.heap.size 5 i0 1 Tryd.underlying27 hi (.slice va p vc) p (L.map byteV) rfl HO5.out rfl ?_) | (fail))
              go_roundw
              case rel => exact ⟨k + 1, L, by go_num, by omega, by rw [HPL.out]; omega, Lib.hid (by have := HO5.out; unfold OwB; rw [HPL.out]; exact this), HB5, HE2⟩
              case measure => simp [intOf]; omega
            | false =>
              have hop : opOk x.op := by
                rcases HX.out with h | h | h
                · rw [hL] at h; cases h
                · rw [hj] at h; cases h
                · exact h.1
              have hel : (encI x).length ≤ 3 := by have := WS_three (l := l) HS2.out k; unfold WS widN at this; rw [HAT.out, hj] at this; simpa [encN] using this
              have HE2 : Hid ((L ++ encI x) ++ codeGo (farL l S) S (l.drop (k + 1)) (k + 1) = codeGo (farL l S) S l 0) := Lib.hid (by
                have := HEx.out
                rw [codeGo, itemB, if_neg (by simp [hj])] at this
                rw [List.append_assoc]; exact this)
              obtain ⟨E, hEe⟩ : ∃ E, encI x = E := ⟨_, rfl⟩
              obtain ⟨m, hm0⟩ : ∃ m, E.length = m := ⟨_, rfl⟩
              have HES := Lib.hid (fun w => refEncC_E x E m hop hEe hm0 w)
              rw [hEe] at HE2 hel
              have HM := Lib.hid hm0
              rw [hm0] at hel
              have hm1 : 0 < m := by rw [← hm0, ← hEe, encI_ok hop]; simp [encS]
              clear hj hL hEe hm0
              go_wp2_with (first | (go_at_call 26; refine (HJ.out _).mono ?_; rintro e w3 ⟨rfl, hb3⟩; have HB4 : Hid (Below w2.heap.size w2 w3) := Lib.hid (bl_thenA HB3.out hb3); have HO4 := Lib.hid (ow_below HOr.out hb3); have x0 := (HB4.out.cell (p := ⟨b, off + k * 2, none⟩) hblt).trans X0.out; have x1 := (HB4.out.cell (p := ⟨b, off + k * 2 + 1, none⟩) hblt).trans X1.out; clear hb3) | (go_at_call 36; refine (HES.out _).mono ?_; rintro e w4 ⟨g4, c4, rfl, hc4, hb4⟩; have HB5 := Lib.hid (bl_thenA HB4.out hb4); have HO5 := Lib.hid (ow_below HO4.out hb4); have HC5 := Lib.hid hc4; have hzz5 := HB5.out.size; clear hb4 hc4) | (at_builtin; refine wpList_append_own _ rfl _ _ 27 rfl w2.heap.size 5 i0 (.int .u8 0) 1 1 Tryd.underlying27 hi hy0 hy1 hy2 rfl (by decide) (.slice va p vc) p (L.map byteV) rfl HO5.out ⟨g4, 0, none⟩ m c4 (E.map byteV) rfl (by rw [List.length_map, HM.out, Nat.mul_one]) (byte_news HC5.out) (byte_one _) (by unfold maxLen; omega) (by omega) (by omega) ?_; intro v5 w5 hown5 hgrow5 _; have HO6 := Lib.hid (OwB.app (L := L) (X := E) (by rw [HPL.out, HM.out]; exact hown5)); have HB6 := Lib.hid (HB5.out.grown hgrow5 HB5.out.size (fun j hj => ow_lo HO5.out j hj)); clear hown5 hgrow5) | (fail))
              go_roundw
              case rel => exact ⟨k + 1, L ++ E, by go_num, by omega, by simp [HPL.out, HM.out]; omega, HO6, HB6, HE2⟩
              case measure => simp [intOf]; omega
          | true =>
            have HJ := Lib.hid (fun w => jumpsC2 x true hj w)
            have h0 := HO.out k hlt (by rw [HAT.out]; exact hj)
            have hs2 : S k ≤ 2 := HS2.out k
            have hop2 : x.op = 24 ∨ x.op = 25 := by unfold isJ at hj; simp only [Bool.or_eq_true, beq_iff_eq] at hj; exact hj
            have HF := Lib.hid (fun (w' : World) (hb : Below w2.heap.size w2 w') => farRC (.slice (some ⟨b, off, none⟩) n c) (.slice (some ⟨gp, 0, none⟩) (n + 1) cp) l S n k w1.heap.size w' (HR2.out.below hb) HN.out hl hlt HS2.out (ow_below HP2.out hb) h0)
            obtain ⟨f, hf⟩ : ∃ f, farL l S k = f := ⟨_, rfl⟩
            obtain ⟨s, hs⟩ : ∃ s, S k = s := ⟨_, rfl⟩
            rw [hf] at HF
            rw [hs] at hs2
            have HE2 : Hid ((L ++ encS x.op f s) ++ codeGo (farL l S) S (l.drop (k + 1)) (k + 1) = codeGo (farL l S) S l 0) := Lib.hid (by
              have := HEx.out
              rw [codeGo, itemB, if_pos hj, hf, hs] at this
              rw [List.append_assoc]; exact this)
            obtain ⟨E, hEe⟩ : ∃ E, encS x.op f s = E := ⟨_, rfl⟩
            have HM : Hid (E.length = 1 + s) := Lib.hid (by rw [← hEe]; exact encS_len _ _ _ hs2)
            have HJM := Lib.hid (fun w => jumpC_E x.op f s E hs2 (by omega) hEe w)
            rw [hEe] at HE2
            have Z1 := Z0.out
            rw [rowF_at hlt, hs] at Z1
            have HZ1c := Lib.hid Z1
            have hs3 : ¬ (s : Int) = 3 := by omega
            clear hj hf hs h0 hop2 hEe Z1
            go_wp2_with (first | (go_at_call 26; refine (HJ.out _).mono ?_; rintro e w3 ⟨rfl, hb3⟩; have HB4 : Hid (Below w2.heap.size w2 w3) := Lib.hid (bl_thenA HB3.out hb3); have HO4 := Lib.hid (ow_below HOr.out hb3); have x0 := (HB4.out.cell (p := ⟨b, off + k * 2, none⟩) hblt).trans X0.out; have z0 := (HB4.out.cell (p := ⟨gz, k, none⟩) hgz).trans HZ1c.out; have HSa := Lib.hid (And.intro x0 z0); clear hb3) | (fail))
            go_region_held3 (fun w' => w'.cell? ⟨b, off + k * 2, none⟩ = some (.int .i64 x.op) ∧ w'.cell? ⟨gz, k, none⟩ = some (.int .i64 s))
              (first | (go_keep; done) | (exact HSd.out) | (exact HSc.out) | (exact HSb.out) | (exact HSa.out))
              (first
                | (have _t := HC6.out; clear _t; (refine step_append_lies0 (by rfl) _ _ _ (by rfl) w2.heap.size 5 i0 (.int .u8 0) 1 1 Tryd.underlying27 hi hy0 hy1 hy2 rfl (by decide) (.slice va p vc) p (L.map byteV) (by rfl) HO6.out ⟨g6, 0, none⟩ (1 + s) c6 (E.map byteV) (by rfl) (by rw [List.length_map, HM.out, Nat.mul_one]) (byte_news HC6.out) (byte_one _) (by omega) (by unfold maxLen; omega) (by omega) (by omega) ?_; intro g7 cap7 w7 hown7 hgrow7; have HO7 := Lib.hid (OwB.app (L := L) (X := E) (by rw [HPL.out, HM.out]; exact hown7)); have HB7 := Lib.hid (HB6.out.grown hgrow7 HB6.out.size (fun j hj => ow_lo HO6.out j hj)); have HSd := Lib.hid (And.intro ((HB7.out.cell (p := ⟨b, off + k * 2, none⟩) hblt).trans X0.out) ((HB7.out.cell (p := ⟨gz, k, none⟩) hgz).trans HZ1c.out)); clear hown7 hgrow7))
                | (have _t := HB5.out; clear _t; go_at_call 37; refine (HJM.out _).mono ?_; rintro e w6 ⟨g6, c6, rfl, hc6, hb6⟩; have HB6 : Hid (Below w2.heap.size w2 w6) := Lib.hid (bl_thenA HB5.out hb6); have HO6 := Lib.hid (ow_below HO5.out hb6); have HC6 := Lib.hid hc6; have hzz6 := HB6.out.size; have HSc := Lib.hid (And.intro ((HB6.out.cell (p := ⟨b, off + k * 2, none⟩) hblt).trans X0.out) ((HB6.out.cell (p := ⟨gz, k, none⟩) hgz).trans HZ1c.out)); clear hb6 hc6)
                | (go_at_call 38; refine (HF.out _ (by first | exact bl_drewN HB4.out _ | exact HB4.out)).mono ?_; rintro e w5 ⟨rfl, q5, hq5⟩; have HB5 : Hid (Below w2.heap.size w2 w5) := Lib.hid (by rw [hq5]; first | exact bl_drewN (bl_drewN HB4.out _) _ | exact bl_drewN HB4.out _); have HO5 : Hid (w5.ownsRow w2.heap.size 5 1 (.slice va p vc) p (L.map byteV)) := Lib.hid (by rw [hq5]; exact HO4.out); have HSb := Lib.hid (And.intro ((HB5.out.cell (p := ⟨b, off + k * 2, none⟩) hblt).trans X0.out) ((HB5.out.cell (p := ⟨gz, k, none⟩) hgz).trans HZ1c.out)); clear hq5)
                | (fail))
            go_wp2_with fail
            go_roundw
            case rel => exact ⟨k + 1, L ++ E, by go_num, by omega, by rw [List.length_append, HM.out, HPL.out]; omega, HO7, HB7, HE2⟩
            case measure => simp [intOf]; omega
        · have hkn : k = n := by omega
          subst hkn
          have hL : codeGo (farL l S) S l 0 = L := by
            have := HE.out
            rw [List.drop_of_length_le (by rw [HN.out]; exact Nat.le_refl _)] at this
            simpa [codeGo] using this.symm
          have HF : Hid (asmP l = .inr L) := Lib.hid (by rw [HAP.out S HS1.out, hL])
          have hzw := HB2.out.size
          clear hL
          go_wp2
          go_ret2
          exact ⟨L, _, HF.out, rfl, OwB.lower HOw.out hzw, bl_thenA HB2.out HB3.out⟩
end Go.Proofs.YtbcpopakdlplgaaDoor
