/- Contracts of clewref30.stands, asked.; Contracts of clewref30.number, Normal.; Contract of clewref30.Normal. -/
import Derived.Test.YtbcpopakdlplgaaDoorAsmN
import Derived.Deep.QuietTactic
import Derived.BigQuiet
namespace Go.Proofs.YtbcpopakdlplgaaDoor
open Go.RowKit Go.PlainAid Go.Maps
set_option linter.unusedVariables false
set_option linter.unusedSimpArgs false

theorem stnd_go (a : Int) : ∀ (l : List IN) (i k : Nat), (∀ j, ∀ h : j < l.length, j < k → ¬ (isL l[j] = true ∧ l[j].arg = a)) → k ≤ l.length → stndGo a l i = stndGo a (l.drop k) (i + k)
  | l, i, 0, _, _ => by simp
  | [], i, k + 1, _, h => by simp at h
  | x :: t, i, k + 1, h, hk => by
    rw [stndGo, if_neg (show ¬ (isL x = true ∧ x.arg = a) from h 0 (by simp) (by omega)), List.drop_succ_cons, stnd_go a t (i + 1) k (fun j hj hjk => h (j + 1) (by simpa using hj) (by omega)) (by simpa using hk)]
    congr 1; omega
theorem stnd_hit {a : Int} {l : List IN} {k : Nat} (hk : k < l.length) (h : ∀ j, ∀ h : j < l.length, j < k → ¬ (isL l[j] = true ∧ l[j].arg = a)) (hh : isL l[k] = true ∧ l[k].arg = a) : stndGo a l 0 = k := by
  rw [stnd_go a l 0 k h (by omega), List.drop_eq_getElem_cons hk, stndGo, if_pos hh]; simp
theorem stnd_miss {a : Int} {l : List IN} (h : ∀ j, ∀ h : j < l.length, ¬ (isL l[j] = true ∧ l[j].arg = a)) : stndGo a l 0 = -1 := by
  rw [stnd_go a l 0 l.length (fun j hj _ => h j hj) (Nat.le_refl _), List.drop_length]; rfl
set_option maxRecDepth 100000 in
set_option maxHeartbeats 4000000 in
theorem standsC (v : Value) (l : List IN) (to : Nat) (a : Int) (w : World) (hr : Reads Cd.ins.seq w v l) (ht : to ≤ l.length) (hl : l.length ≤ 100000) :
    Calls Tryd.prog 27 #[v, .int .i64 to, .int .i64 a] w fun e w' => e = .returned (.int .i64 (stndGo a (l.take to) 0)) ∧ w = w' := by
  obtain ⟨ad, c, hv, hcap, _⟩ := hr.len
  subst hv
  have HC := Lib.hid (cells_of hr).1
  obtain ⟨n, hn⟩ : ∃ n, l.length = n := ⟨_, rfl⟩
  have HN := Lib.hid hn
  rw [hn] at hl hcap ht ⊢
  clear hr hn
  go_enter Tryd.func27, Tryd.ntmps27
  go_wp2
  go_loop [7] (fun i => ∃ k : Nat, i = .int .i64 k ∧ k ≤ to ∧ Hid (∀ j, ∀ h : j < (l.take to).length, j < k → ¬ (isL (l.take to)[j] = true ∧ (l.take to)[j].arg = a))) (fun i => to - (intOf i).toNat)
  case atStart => exact ⟨0, rfl, Nat.zero_le _, Lib.hid (fun j h h2 => by omega)⟩
  case round =>
    obtain ⟨k, rfl, hk, HI⟩ := hrel
    by_cases hlt : k < to
    · have hkl : k < l.length := by rw [HN.out]; omega
      have hkt : k < (l.take to).length := by simp [HN.out]; omega
      have hxe : (l.take to)[k] = l[k] := by simp
      obtain ⟨b, off, ha, hblt, hw, hx0, hx1⟩ := HC.out k hkl
      subst ha
      have hk0 : (0 : Int) ≤ (k : Int) := by omega
      have hk1 : (k : Int) < (n : Int) := by omega
      obtain ⟨x, hx⟩ : ∃ x, l[k] = x := ⟨_, rfl⟩
      rw [hx] at hx0 hx1 hxe
      have HXE := Lib.hid hxe
      clear hx hxe
      by_cases h1 : x.op = 38
      · by_cases h2 : x.arg = a
        · have HF := Lib.hid (stnd_hit hkt (fun j hj hjk => HI.out j hj hjk) (by rw [HXE.out]; exact ⟨by simp [isL, h1], h2⟩))
          have e1 : (x.op == 38) = true := by simp [h1]
          have e2 : (x.arg == a) = true := by simp [h2]
          clear h1 h2
          go_wp2
          go_ret
          exact ⟨ret_i (by rw [HF.out]), rfl⟩
        · have HI2 : Hid (∀ j, ∀ h : j < (l.take to).length, j < k + 1 → ¬ (isL (l.take to)[j] = true ∧ (l.take to)[j].arg = a)) := Lib.hid (fun j hj hjk => by
            by_cases e : j = k
            · subst e; rw [HXE.out]; exact fun h => h2 h.2
            · exact HI.out j hj (by omega))
          have e1 : (x.op == 38) = true := by simp [h1]
          have e2 : (x.arg == a) = false := by simp [h2]
          clear h1 h2
          go_wp2
          go_round
          case rel => exact ⟨k + 1, by go_num, by omega, HI2⟩
          case measure => simp [intOf]; omega
      · have HI2 : Hid (∀ j, ∀ h : j < (l.take to).length, j < k + 1 → ¬ (isL (l.take to)[j] = true ∧ (l.take to)[j].arg = a)) := Lib.hid (fun j hj hjk => by
          by_cases e : j = k
          · subst e; rw [HXE.out]; exact fun h => h1 (by simpa [isL] using h.1)
          · exact HI.out j hj (by omega))
        have e1 : (x.op == 38) = false := by simp [h1]
        clear h1
        go_wp2
        go_round
        case rel => exact ⟨k + 1, by go_num, by omega, HI2⟩
        case measure => simp [intOf]; omega
    · have hkn : k = to := by omega
      have HF := Lib.hid (stnd_miss (a := a) (l := l.take to) (fun j hj => HI.out j hj (by have := hj; simp at this; omega)))
      go_wp2
      go_ret
      exact ⟨ret_i (by rw [HF.out]), rfl⟩
set_option maxRecDepth 100000 in
set_option maxHeartbeats 4000000 in
theorem askedC (v : Value) (l : List IN) (a : Int) (w : World) (hr : Reads Cd.ins.seq w v l) (hl : l.length ≤ 100000) :
    Calls Tryd.prog 24 #[v, .int .i64 a] w fun e w' => e = .returned (.bool (askedL l a)) ∧ Below w.heap.size w w' := by
  obtain ⟨ad, c, hv, hcap, _⟩ := hr.len
  subst hv
  have HC := Lib.hid (cells_of hr).1
  obtain ⟨n, hn⟩ : ∃ n, l.length = n := ⟨_, rfl⟩
  have HN := Lib.hid hn
  rw [hn] at hl hcap ⊢
  clear hr hn
  go_enter Tryd.func24, Tryd.ntmps24
  go_wp2
  go_loopw [5] (fun i wr => ∃ k : Nat, i = .int .i64 k ∧ k ≤ n ∧ Hid (Below w.heap.size w wr) ∧ Hid (askK l k a = false)) (fun i _ => n - (intOf i).toNat)
  case atStart => exact ⟨0, rfl, Nat.zero_le _, Lib.hid (Below.refl _ _), Lib.hid rfl⟩
  case round =>
    obtain ⟨k, rfl, hk, HB, HI⟩ := hrel
    by_cases hlt : k < n
    · have hkl : k < l.length := by rw [HN.out]; exact hlt
      have HCr := Lib.hid (HC.out.below HB.out)
      obtain ⟨b, off, ha, hblt, hw, hx0, hx1⟩ := HCr.out k hkl
      subst ha
      have hk0 : (0 : Int) ≤ (k : Int) := by omega
      have hk1 : (k : Int) < (n : Int) := by omega
      have HT := Lib.hid (fun h => askK_yes hkl h a)
      have HF := Lib.hid (fun h => askK_no hkl h a)
      have HM : Hid (l[k] ∈ l) := Lib.hid (List.getElem_mem hkl)
      obtain ⟨x, hx⟩ : ∃ x, l[k] = x := ⟨_, rfl⟩
      rw [hx] at hx0 hx1 HT HF HM
      clear hx
      cases hj : isJ x with
      | true =>
        have HJ := Lib.hid (fun w => jumpsC2 x true hj w)
        by_cases h2 : x.arg = a
        · have HR : Hid (askedL l a = true) := Lib.hid (by
            unfold askedL
            rw [List.any_eq_true]
            exact ⟨x, HM.out, by simp [hj, h2]⟩)
          have e2 : (x.arg == a) = true := by simp [h2]
          clear h2 hj
          go_wp2_with (go_at_call 26; refine (HJ.out _).mono ?_; rintro e w1 ⟨rfl, hb1⟩; have hx2 : w1.cell? ⟨b, off + k * 2 + 1, none⟩ = some (.int .i64 x.arg) := (by rw [hb1.cell (p := ⟨b, off + k * 2 + 1, none⟩) hblt]; exact hx1))
          go_ret
          exact ⟨ret_b (by rw [HR.out]), bl_thenA HB.out hb1⟩
        · have HI2 : Hid (askK l (k + 1) a = false) := Lib.hid (by rw [HT.out hj, if_neg (Ne.symm h2)]; exact HI.out)
          have e2 : (x.arg == a) = false := by simp [h2]
          clear h2 hj
          go_wp2_with (go_at_call 26; refine (HJ.out _).mono ?_; rintro e w1 ⟨rfl, hb1⟩; have hx2 : w1.cell? ⟨b, off + k * 2 + 1, none⟩ = some (.int .i64 x.arg) := (by rw [hb1.cell (p := ⟨b, off + k * 2 + 1, none⟩) hblt]; exact hx1))
          go_roundw
          case rel => exact ⟨k + 1, by go_num, by omega, Lib.hid (bl_thenA HB.out hb1), HI2⟩
          case measure => simp [intOf]; omega
      | false =>
        have HJ := Lib.hid (fun w => jumpsC2 x false hj w)
        have HI2 : Hid (askK l (k + 1) a = false) := Lib.hid (by rw [HF.out hj]; exact HI.out)
        clear hj
        go_wp2_with (go_at_call 26; refine (HJ.out _).mono ?_; rintro e w1 ⟨rfl, hb1⟩)
        go_roundw
        case rel => exact ⟨k + 1, by go_num, by omega, Lib.hid (bl_thenA HB.out hb1), HI2⟩
        case measure => simp [intOf]; omega
    · have hkn : k = n := by omega
      have HR : Hid (askedL l a = false) := Lib.hid (by have := HI.out; unfold askK at this; rw [List.take_of_length_le (by rw [HN.out]; omega)] at this; exact this)
      go_wp2
      go_ret
      exact ⟨ret_b (by rw [HR.out]), HB.out⟩
end Go.Proofs.YtbcpopakdlplgaaDoor
namespace Go.Proofs.YtbcpopakdlplgaaDoor
open Go.RowKit Go.PlainAid Go.Maps
set_option linter.unusedVariables false
set_option linter.unusedSimpArgs false

theorem numGo_bd (l0 : List IN) : ∀ (t : List IN) (bes : Bool) (n : Int), n ≤ numGo l0 t bes n ∧ numGo l0 t bes n ≤ n + t.length
  | [], bes, n => by simp [numGo]
  | x :: t, bes, n => by
    rw [numGo]
    have a := numGo_bd l0 t false n
    have b := numGo_bd l0 t true (n + 1)
    have c := numGo_bd l0 t bes n
    simp only [List.length_cons]
    split
    · omega
    · split <;> omega
/-- The count behind the first k. -/
def numK (l : List IN) (k : Nat) : Int := numGo l (l.take k) false (-1)
def besK (l : List IN) (k : Nat) : Bool := besGo l (l.take k) false
theorem numK_bd (l : List IN) (k : Nat) (h : k ≤ l.length) : -1 ≤ numK l k ∧ numK l k ≤ (k : Int) - 1 := by
  have := numGo_bd l (l.take k) false (-1)
  unfold numK
  have hl : (l.take k).length = k := by simp; omega
  rw [hl] at this; omega
theorem numK_step {l : List IN} {k : Nat} (h : k < l.length) : numK l (k + 1) = numGo l [l[k]] (besK l k) (numK l k) ∧ besK l (k + 1) = besGo l [l[k]] (besK l k) := by
  unfold numK besK
  rw [take_snocI l k h, numGo_app, besGo_app]; exact ⟨rfl, rfl⟩
set_option maxRecDepth 100000 in
set_option maxHeartbeats 4000000 in
theorem numberC (v : Value) (l : List IN) (place : Int) (w : World) (hr : Reads Cd.ins.seq w v l) (hp : -1 ≤ place ∧ place < l.length) (hl : l.length ≤ 100000) :
    Calls Tryd.prog 25 #[v, .int .i64 place] w fun e w' => e = .returned (.int .i64 (numberR l place)) ∧ Below w.heap.size w w' := by
  obtain ⟨T, hT⟩ : ∃ T : Nat, place + 1 = T := ⟨(place + 1).toNat, by omega⟩
  have HE : Hid (numberR l place = numK l T) := Lib.hid (by unfold numberR numK; rw [hT]; rfl)
  obtain ⟨ad, c, hv, hcap, _⟩ := hr.len
  subst hv
  have HR := Lib.hid hr
  have HC := Lib.hid (cells_of hr).1
  obtain ⟨n, hn⟩ : ∃ n, l.length = n := ⟨_, rfl⟩
  have HN := Lib.hid hn
  have HT : T ≤ n := by omega
  rw [hn] at hl hcap hp HR ⊢
  clear hr hn
  have HP : place = (T : Int) - 1 := by omega
  subst HP
  clear hT hp
  go_enter Tryd.func25, Tryd.ntmps25
  go_wp2
  go_loopw [5, 6, 7] (fun m b i wr => ∃ k : Nat, i = .int .i64 k ∧ k ≤ T ∧ m = .int .i64 (numK l k) ∧ b = .bool (besK l k) ∧ Hid (Below w.heap.size w wr)) (fun _ _ i _ => T - (intOf i).toNat)
  case atStart => exact ⟨0, rfl, Nat.zero_le _, rfl, rfl, Lib.hid (Below.refl _ _)⟩
  case round =>
    obtain ⟨k, rfl, hk, rfl, rfl, HB⟩ := hrel
    by_cases hlt : k < T
    · have hkl : k < l.length := by rw [HN.out]; omega
      have hb := numK_bd l k (by omega)
      have HRr := Lib.hid (HR.out.below HB.out)
      obtain ⟨b, off, ha, hblt, hw, hx0, hx1⟩ := (HC.out.below HB.out) k hkl
      subst ha
      have hk0 : (0 : Int) ≤ (k : Int) := by omega
      have hk1 : (k : Int) < (n : Int) := by omega
      have hkT : (k : Int) ≤ (T : Int) - 1 := by omega
      have HS := Lib.hid (numK_step hkl)
      obtain ⟨x, hx⟩ : ∃ x, l[k] = x := ⟨_, rfl⟩
      rw [hx] at hx0 hx1 HS
      obtain ⟨M, hM⟩ : ∃ M, numK l k = M := ⟨_, rfl⟩
      obtain ⟨Q, hQ⟩ : ∃ Q, besK l k = Q := ⟨_, rfl⟩
      rw [hM, hQ] at HS
      rw [hM] at hb ⊢
      rw [hQ]
      clear hx hM hQ
      cases hL : isL x with
      | false =>
        have hne : (x.op != 38) = true := by unfold isL at hL; simpa using hL
        have HS2 : Hid (numK l (k + 1) = M ∧ besK l (k + 1) = false) := Lib.hid (by have := HS.out; simp [numGo, besGo, hL] at this; exact this)
        clear hL
        go_wp2
        go_roundw
        case rel => exact ⟨k + 1, by go_num, by omega, by rw [HS2.out.1], by rw [HS2.out.2], HB⟩
        case measure => simp [intOf]; omega
      | true =>
        have hne : (x.op != 38) = false := by unfold isL at hL; simpa using hL
        have HA := Lib.hid (fun w' h => askedC (.slice (some ⟨b, off, none⟩) n c) l x.arg w' h (by rw [HN.out]; omega))
        cases hA : askedL l x.arg with
        | false =>
          rw [hA] at HA
          have HS2 : Hid (numK l (k + 1) = M ∧ besK l (k + 1) = Q) := Lib.hid (by have := HS.out; simp [numGo, besGo, hL, hA] at this; exact this)
          clear hL hA
          go_wp2_with (go_at_call 24; refine (HA.out _ HRr.out).mono ?_; rintro e w1 ⟨rfl, hb1⟩)
          go_roundw
          case rel => exact ⟨k + 1, by go_num, by omega, by rw [HS2.out.1], by rw [HS2.out.2], Lib.hid (bl_thenA HB.out hb1)⟩
          case measure => simp [intOf]; omega
        | true =>
          rw [hA] at HA
          cases Q with
          | true =>
            have HS2 : Hid (numK l (k + 1) = M ∧ besK l (k + 1) = true) := Lib.hid (by have := HS.out; simp [numGo, besGo, hL, hA] at this; exact this)
            clear hL hA
            go_wp2_with (go_at_call 24; refine (HA.out _ HRr.out).mono ?_; rintro e w1 ⟨rfl, hb1⟩)
            go_roundw
            case rel => exact ⟨k + 1, by go_num, by omega, by rw [HS2.out.1], by rw [HS2.out.2], Lib.hid (bl_thenA HB.out hb1)⟩
            case measure => simp [intOf]; omega
          | false =>
            have HS2 : Hid (numK l (k + 1) = M + 1 ∧ besK l (k + 1) = true) := Lib.hid (by have := HS.out; simp [numGo, besGo, hL, hA] at this; exact this)
            clear hL hA
            go_wp2_with (go_at_call 24; refine (HA.out _ HRr.out).mono ?_; rintro e w1 ⟨rfl, hb1⟩)
            go_roundw
            case rel => exact ⟨k + 1, by go_num, by omega, by rw [HS2.out.1], by rw [HS2.out.2], Lib.hid (bl_thenA HB.out hb1)⟩
            case measure => simp [intOf]; omega
    · have hkn : k = T := by omega
      subst hkn
      have hkT : (k : Int) - 1 < (k : Int) := by omega
      go_wp2
      go_ret
      exact ⟨ret_i (by rw [HE.out]), HB.out⟩
end Go.Proofs.YtbcpopakdlplgaaDoor
namespace Go.Proofs.YtbcpopakdlplgaaDoor
open Go.RowKit Go.PlainAid Go.Maps
set_option linter.unusedVariables false
set_option linter.unusedSimpArgs false

theorem stnd_bd (a : Int) : ∀ (l : List IN) (i : Nat), -1 ≤ stndGo a l i ∧ stndGo a l i < ((i + l.length : Nat) : Int)
  | [], i => by simp [stndGo]; omega
  | x :: t, i => by
    rw [stndGo]
    have := stnd_bd a t (i + 1)
    split
    · simp; omega
    · simp only [List.length_cons]; omega
theorem num_wf {l : List IN} {p : Int} (hl : l.length ≤ 100000) : Wf (numberR l p) := by
  unfold numberR
  have := numGo_bd l (l.take (p + 1).toNat) false (-1)
  have h2 : (l.take (p + 1).toNat).length ≤ l.length := by simp; omega
  unfold Wf; omega
set_option maxRecDepth 100000 in
set_option maxHeartbeats 8000000 in
theorem refNormC (v : Value) (l : List IN) (w : World) (hr : Reads Cd.ins.seq w v l) (hl : l.length ≤ 100000) :
    Calls Tryd.prog 13 #[v] w fun e w' => ∃ v', e = .returned v' ∧ OwI w' w.heap.size v' (normR l) ∧ Below w.heap.size w w' ∧ ∀ x ∈ normR l, InW x := by
  obtain ⟨ad, c, hv, hcap, _⟩ := hr.len
  subst hv
  have HR := Lib.hid hr
  have HC := Lib.hid (cells_of hr).1
  have HWl := Lib.hid (ins_wf hr)
  obtain ⟨n, hn⟩ : ∃ n, l.length = n := ⟨_, rfl⟩
  have HN := Lib.hid hn
  rw [hn] at hl hcap HR ⊢
  clear hr hn
  obtain ⟨i0, hi, hz1, hz2, hz3⟩ := info_parts Tryd.infoIns
  go_enter Tryd.func13, Tryd.ntmps13
  go_wp2
  go_loopw [3, 4, 5] (fun v b i wr => ∃ (k : Nat) (L : List IN) (bes : Bool), i = .int .i64 k ∧ k ≤ n ∧ b = .bool bes ∧ L.length ≤ k ∧ Hid (OwI wr w.heap.size v L) ∧ Hid (Below w.heap.size w wr) ∧ Hid (∀ x ∈ L, InW x) ∧ Hid (L ++ normGo l (l.drop k) k bes = normR l)) (fun _ _ i _ => n - (intOf i).toNat)
  case atStart => exact ⟨0, [], false, rfl, Nat.zero_le _, rfl, by simp, Lib.hid (OwI.nil _ _), Lib.hid (Below.refl _ _), Lib.hid (fun x h => by cases h), Lib.hid rfl⟩
  case round =>
    obtain ⟨k, L, bes, rfl, hk, rfl, hLk, HO, HB, HI, HE⟩ := hrel
    by_cases hlt : k < n
    · have hkl : k < l.length := by rw [HN.out]; exact hlt
      have HRr := Lib.hid (HR.out.below HB.out)
      obtain ⟨b, off, ha, hblt, hw, hx0, hx1⟩ := (HC.out.below HB.out) k hkl
      subst ha
      have hst : l.drop k = l[k] :: l.drop (k + 1) := List.drop_eq_getElem_cons hkl
      have hE := HE.out
      rw [hst] at hE
      obtain ⟨x, hx⟩ : ∃ x, l[k] = x := ⟨_, rfl⟩
      rw [hx] at hw hx0 hx1 hE
      have HEx := Lib.hid hE
      have HWx := Lib.hid hw
      clear hst hE hx HE
      have hsz := HB.out.size
      obtain ⟨p, hp⟩ : ∃ p, L.length = p := ⟨_, rfl⟩
      have HPL := Lib.hid hp
      obtain ⟨va, vc, hv⟩ := ow_shape HO.out
      rw [hp] at hLk hv
      subst hv
      clear hp
      have hbd : p + 1 ≤ maxLen ∧ (p + 1) * 16 ≤ 140737488355328 := by unfold maxLen; omega
      have HOw : Hid (∀ w', Below wr.heap.size wr w' → w'.ownsRow w.heap.size 37 2 (.slice va p vc) p ((L.map insC).flatten)) := Lib.hid (fun w' h => by have := ow_below HO.out h; rw [HPL.out] at this; exact this)
      have hk0 : (0 : Int) ≤ (k : Int) := by omega
      have hk1 : (k : Int) < (n : Int) := by omega
      cases hL : isL x with
      | true =>
        have hne : (x.op == 38) = true := by unfold isL at hL; simpa using hL
        have HA := Lib.hid (fun w' h => askedC (.slice (some ⟨b, off, none⟩) n c) l x.arg w' h (by rw [HN.out]; omega))
        cases hA : askedL l x.arg with
        | false =>
          rw [hA] at HA
          have HE2 : Hid (L ++ normGo l (l.drop (k + 1)) (k + 1) bes = normR l) := Lib.hid (by have := HEx.out; rw [normGo, if_pos hL, if_neg (by simp [hA])] at this; exact this)
          clear hL hA
          go_wp2_with (go_at_call 24; refine (HA.out _ (HRr.out.below (bl_one wr _))).mono ?_; rintro e w1 ⟨rfl, hb1⟩; have HB1 := Lib.hid (bl_thenA (bl_one wr _) hb1); clear hb1)
          go_roundw
          case rel => exact ⟨k + 1, L, bes, by go_num, by omega, rfl, by rw [HPL.out]; omega, Lib.hid (ow_below HO.out HB1.out), Lib.hid (bl_thenA HB.out HB1.out), HI, HE2⟩
          case measure => simp [intOf]; omega
        | true =>
          rw [hA] at HA
          cases bes with
          | true =>
            have HE2 : Hid (L ++ normGo l (l.drop (k + 1)) (k + 1) true = normR l) := Lib.hid (by have := HEx.out; rw [normGo, if_pos hL, if_neg (by simp)] at this; exact this)
            clear hL hA
            go_wp2_with (go_at_call 24; refine (HA.out _ (HRr.out.below (bl_one wr _))).mono ?_; rintro e w1 ⟨rfl, hb1⟩; have HB1 := Lib.hid (bl_thenA (bl_one wr _) hb1); clear hb1)
            go_roundw
            case rel => exact ⟨k + 1, L, true, by go_num, by omega, rfl, by rw [HPL.out]; omega, Lib.hid (ow_below HO.out HB1.out), Lib.hid (bl_thenA HB.out HB1.out), HI, HE2⟩
            case measure => simp [intOf]; omega
          | false =>
            have HNU := Lib.hid (fun w' h => numberC (.slice (some ⟨b, off, none⟩) n c) l k w' h (by rw [HN.out]; omega) (by rw [HN.out]; omega))
            have HE2 : Hid ((L ++ [⟨38, numberR l k⟩]) ++ normGo l (l.drop (k + 1)) (k + 1) true = normR l) := Lib.hid (by have := HEx.out; rw [normGo, if_pos hL, if_pos ⟨hA, rfl⟩] at this; simpa using this)
            have HNW := Lib.hid (num_wf (l := l) (p := k) (by rw [HN.out]; omega))
            obtain ⟨N, hNn⟩ : ∃ N, numberR l k = N := ⟨_, rfl⟩
            rw [hNn] at HNU HE2 HNW
            clear hL hA hNn
            go_wp2_with (first | (go_at_call 24; refine (HA.out _ (HRr.out.below (bl_one wr _))).mono ?_; rintro e w1 ⟨rfl, hb1⟩; have HB1 := Lib.hid (bl_thenA (bl_one wr _) hb1); clear hb1) | (go_at_call 25; refine (HNU.out _ (HRr.out.below HB1.out)).mono ?_; rintro e w2 ⟨rfl, hb2⟩; have HB2 := Lib.hid (bl_thenA HB1.out hb2); have hzz2 := HB2.out.size; clear hb2) | (at_builtin; refine wpList_append_own _ rfl _ _ 22 rfl w.heap.size 37 i0 (.agg #[.int .i64 0, .int .i64 0]) 2 16 Tryd.underlying22 hi hz1 hz2 hz3 rfl (by decide) (.slice va p vc) p ((L.map insC).flatten) rfl (World.ownsRow.alloc (HOw.out _ HB2.out) _) ⟨w2.heap.size, 0, none⟩ 1 1 (insC ⟨38, N⟩) rfl rfl (news_at (by simp) (insC ⟨38, N⟩) _) (insC_one _) hbd.1 hbd.2 (by simp <;> omega) ?_; intro v5 w5 hown5 hgrow5 _; have HO5 := Lib.hid (OwI.snoc (L := L) (x := ⟨38, N⟩) (by rw [HPL.out]; exact hown5)); have HB5 := Lib.hid (bl_g (bl_a (bl_thenA HB.out HB2.out) _) hgrow5 (ow_lo HO.out)); clear hown5 hgrow5))
            go_roundw
            case rel => exact ⟨k + 1, L ++ [⟨38, N⟩], true, by go_num, by omega, rfl, by simp [HPL.out] <;> omega, HO5, HB5, Lib.hid (by
              intro y hy
              rcases List.mem_append.1 hy with hy | hy
              · exact HI.out y hy
              · simp at hy; subst hy; exact ⟨by unfold Wf; simp, HNW.out⟩), HE2⟩
            case measure => simp [intOf]; omega
      | false =>
        have hne : (x.op == 38) = false := by unfold isL at hL; simpa using hL
        cases hj : isJ x with
        | false =>
          have HJ := Lib.hid (fun w => jumpsC2 x false hj w)
          have HE2 : Hid ((L ++ [x]) ++ normGo l (l.drop (k + 1)) (k + 1) false = normR l) := Lib.hid (by have := HEx.out; rw [normGo, if_neg (by simp [hL]), if_neg (by simp [hj])] at this; simpa using this)
          clear hL hj
          go_wp2_with (first | (go_at_call 26; refine (HJ.out _).mono ?_; rintro e w2 ⟨rfl, hb2⟩; have HB2 := Lib.hid (bl_thenA (bl_one wr _) hb2); have hzz2 := HB2.out.size; have kk := (BK.new wr [.int .i64 x.op, .int .i64 x.arg] 37).below hb2; have k0 := kk.cell 0; have k1 := kk.cell 1; simp only [List.getElem?_cons_zero, List.getElem?_cons_succ] at k0 k1; clear kk hb2) | (at_builtin; refine wpList_append_own _ rfl _ _ 22 rfl w.heap.size 37 i0 (.agg #[.int .i64 0, .int .i64 0]) 2 16 Tryd.underlying22 hi hz1 hz2 hz3 rfl (by decide) (.slice va p vc) p ((L.map insC).flatten) rfl (World.ownsRow.alloc (HOw.out _ HB2.out) _) ⟨w2.heap.size, 0, none⟩ 1 1 (insC x) rfl rfl (news_at (by simp) (insC x) _) (insC_one _) hbd.1 hbd.2 (by simp <;> omega) ?_; intro v5 w5 hown5 hgrow5 _; have HO5 := Lib.hid (OwI.snoc (L := L) (x := x) (by rw [HPL.out]; exact hown5)); have HB5 := Lib.hid (bl_g (bl_a (bl_thenA HB.out HB2.out) _) hgrow5 (ow_lo HO.out)); clear hown5 hgrow5))
          go_roundw
          case rel => exact ⟨k + 1, L ++ [x], false, by go_num, by omega, rfl, by simp [HPL.out] <;> omega, HO5, HB5, Lib.hid (by
            intro y hy
            rcases List.mem_append.1 hy with hy | hy
            · exact HI.out y hy
            · simp at hy; subst hy; exact HWx.out), HE2⟩
          case measure => simp [intOf]; omega
        | true =>
          have HJ := Lib.hid (fun w => jumpsC2 x true hj w)
          have hsb := stnd_bd x.arg l 0
          have HST := Lib.hid (fun w' h => standsC (.slice (some ⟨b, off, none⟩) n c) l n x.arg w' h (by rw [HN.out]; omega) (by rw [HN.out]; omega))
          rw [List.take_of_length_le (by rw [HN.out]; omega)] at HST
          rw [HN.out] at hsb
          have HE2 : Hid ((L ++ [⟨x.op, numberR l (stnds l x.arg)⟩]) ++ normGo l (l.drop (k + 1)) (k + 1) false = normR l) := Lib.hid (by have := HEx.out; rw [normGo, if_neg (by simp [hL]), if_pos hj] at this; simpa using this)
          unfold stnds at HE2
          have HNW := Lib.hid (num_wf (l := l) (p := stndGo x.arg l 0) (by rw [HN.out]; omega))
          have HNU := Lib.hid (fun w' h => numberC (.slice (some ⟨b, off, none⟩) n c) l (stndGo x.arg l 0) w' h (by rw [HN.out]; omega) (by rw [HN.out]; omega))
          obtain ⟨SS, hSS⟩ : ∃ S, stndGo x.arg l 0 = S := ⟨_, rfl⟩
          rw [hSS] at HNU HE2 HNW HST hsb
          obtain ⟨N, hNn⟩ : ∃ N, numberR l SS = N := ⟨_, rfl⟩
          rw [hNn] at HNU HE2 HNW
          clear hL hj hNn hSS
          go_wp2_with (first | (go_at_call 26; refine (HJ.out _).mono ?_; rintro e w1 ⟨rfl, hb1⟩; have HB1 := Lib.hid (bl_thenA (bl_one wr _) hb1); have HK1 := Lib.hid ((BK.new wr [.int .i64 x.op, .int .i64 x.arg] 37).below hb1); have k1 := HK1.out.cell 1; simp only [List.getElem?_cons_zero, List.getElem?_cons_succ] at k1; clear hb1) | (go_at_call 27; refine (HST.out _ (HRr.out.below HB1.out)).mono ?_; rintro e w' ⟨rfl, rfl⟩) | (go_at_call 25; refine (HNU.out _ (HRr.out.below HB1.out)).mono ?_; rintro e w2 ⟨rfl, hb2⟩; have HK2 := Lib.hid (HK1.out.below hb2); have HB2 := Lib.hid (bl_thenA HB1.out hb2); have hzz2 := HB2.out.size; have j0 := HK2.out.cell 0; have j1 := HK2.out.cell 1; have f1 := HK2.out.fr 1; simp only [List.getElem?_cons_zero, List.getElem?_cons_succ] at j0 j1; have HO3 := Lib.hid (World.ownsRow.kept (HOw.out _ HB2.out) (gr_set w2 wr.heap.size 1 (.int .i64 N)) (by cases hvo : (Value.slice va p vc).ownBlock with | none => exact .inl rfl | some q => (right; intro he; have := (World.ownsRow.lt HO.out q hvo).2; have := Option.some.inj he; omega))); have HB3 := Lib.hid (bl_s (bl_thenA HB.out HB2.out) 1 (.int .i64 N) hsz); clear hb2) | (at_builtin; refine wpList_append_own _ rfl _ _ 22 rfl w.heap.size 37 i0 (.agg #[.int .i64 0, .int .i64 0]) 2 16 Tryd.underlying22 hi hz1 hz2 hz3 rfl (by decide) (.slice va p vc) p ((L.map insC).flatten) rfl (World.ownsRow.alloc HO3.out _) ⟨w2.heap.size, 0, none⟩ 1 1 (insC ⟨x.op, N⟩) rfl rfl (news_at (by simp) (insC ⟨x.op, N⟩) _) (insC_one _) hbd.1 hbd.2 (by simp <;> omega) ?_; intro v5 w5 hown5 hgrow5 _; have HO5 := Lib.hid (OwI.snoc (L := L) (x := ⟨x.op, N⟩) (by rw [HPL.out]; exact hown5)); have HB5 := Lib.hid (bl_g (bl_a HB3.out _) hgrow5 (ow_lo HO.out)); clear hown5 hgrow5))
          go_roundw
          case rel => exact ⟨k + 1, L ++ [⟨x.op, N⟩], false, by go_num, by omega, rfl, by simp [HPL.out] <;> omega, HO5, HB5, Lib.hid (by
            intro y hy
            rcases List.mem_append.1 hy with hy | hy
            · exact HI.out y hy
            · simp at hy; subst hy; exact ⟨HWx.out.1, HNW.out⟩), HE2⟩
          case measure => simp [intOf]; omega
    · have hkn : k = n := by omega
      subst hkn
      have HF : Hid (L = normR l) := Lib.hid (by have := HE.out; rw [List.drop_of_length_le (by rw [HN.out]; omega)] at this; simpa [normGo] using this)
      go_wp2
      go_ret
      exact ⟨_, rfl, by rw [← HF.out]; exact HO.out, HB.out, by rw [← HF.out]; exact HI.out⟩
end Go.Proofs.YtbcpopakdlplgaaDoor
