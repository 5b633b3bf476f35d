/- Contracts of Lower in package letter and in clewref04: the text in small letters, in new memory. -/
import Derived.Test.YtjggklfegcejhaaGreatLetter
namespace Go.Proofs.YtjggklfegcejhaaGreat
open Go.RowKit Go.PlainAid

/-- The first k bytes made small. -/
def lowTo (l : List UInt8) (k : Nat) : List UInt8 := (l.take k).map lowU ++ l.drop k
theorem lowTo_len (l : List UInt8) (k : Nat) : (lowTo l k).length = l.length := by unfold lowTo; simp; omega
theorem lowTo_zero (l : List UInt8) : lowTo l 0 = l := by simp [lowTo]
theorem lowTo_all (l : List UInt8) {k : Nat} (h : l.length ≤ k) : lowTo l k = l.map lowU := by
  simp [lowTo, List.take_of_length_le h, List.drop_eq_nil_of_le h]
theorem lowTo_succ (l : List UInt8) (k : Nat) (h : k < l.length) : lowTo l (k + 1) = (lowTo l k).set k (lowU l[k]) := by
  unfold lowTo
  rw [List.take_succ_eq_append_getElem h, List.set_append_right _ _ (by simp; omega)]
  have e : k - ((l.take k).map lowU).length = 0 := by simp; omega
  rw [e, List.drop_eq_getElem_cons h, List.set_cons_zero, List.map_append, List.append_assoc]
  rfl
theorem lowTo_at (l : List UInt8) (k : Nat) (h : k < l.length) : (lowTo l k)[k]'(by rw [lowTo_len]; exact h) = l[k] := by
  unfold lowTo
  rw [List.getElem_append_right (by simp; omega)]
  simp; congr 1; omega
theorem lowTo_same (l : List UInt8) (k : Nat) (h : k < l.length) (hl : lowU l[k] = l[k]) : lowTo l (k + 1) = lowTo l k := by
  rw [lowTo_succ l k h, hl]
  conv => lhs; rw [← lowTo_at l k h]
  exact List.set_getElem_self _

/-- At the end of the loop: the text again, made small. -/
theorem low_back (P : Program) (s : ByteArray) (w : World) (src dst e : TypeId) (g cap k : Nat) (hs : P.underlying src = some (.slice e)) (he : P.underlying e = some (.int .u8)) (hd : P.underlying dst = some .string)
    (hk : s.size ≤ k) (h : BytesAt w g (lowTo s.data.toList k)) : (convert src dst (.slice (some ⟨g, 0, none⟩) s.size cap)).run P w = .ok (.string (lowS s)) w := by
  have hl : (lowTo s.data.toList k).length = s.size := by rw [lowTo_len]; simp
  rw [back_conv w src dst e g cap s.size _ hs he hd hl h, lowTo_all _ (by simpa using hk)]
  rfl
theorem low_step {w wr : World} {l : List UInt8} {k : Nat} {c : UInt8} (hkl : k < l.length) (hc : c = l[k]) (hg : greatB (c.toNat : Int) = true) (h : BytesAt wr w.heap.size (lowTo l k)) :
    BytesAt (wr.setCell ⟨w.heap.size, k, none⟩ (.int .u8 ((c.toNat : Int) + 32))) w.heap.size (lowTo l (k + 1)) := by
  subst hc
  rw [lowTo_succ l k hkl, ← lowU_great hg]
  exact h.set k _
theorem low_step' {w wr : World} {l : List UInt8} {k : Nat} {c : UInt8} (hkl : k < l.length) (hc : c = l[k]) (h : BytesAt wr w.heap.size (lowTo l k)) :
    BytesAt (wr.setCell ⟨w.heap.size, k, none⟩ (.int .u8 ((lowU c).toNat : Int))) w.heap.size (lowTo l (k + 1)) := by
  subst hc
  rw [lowTo_succ l k hkl]
  exact h.set k _
theorem great_bd {c : UInt8} (h : greatB (c.toNat : Int) = true) : 65 ≤ (c.toNat : Int) ∧ (c.toNat : Int) ≤ 90 := by simpa [greatB] using h

theorem refLower (s : ByteArray) (w : World) (hs : s.size ≤ maxLen) : Calls Tryz.prog 66 #[.string s] w fun e w' => e = .returned (.string (lowS s)) ∧ Below w.heap.size w w' := by
  obtain ⟨cap, w1, hconv, hby, hbl, hlt⟩ := bytes_conv (P := Tryz.prog) w 9 107 5 s Tryz.underlying9 Tryz.underlying107 Tryz.underlying5
  unfold maxLen at hs
  have HB := Lib.hid hby
  clear hby
  go_enter Tryz.func66, Tryz.ntmps66
  go_wp2
  go_loopw [4] (fun i wr => ∃ k : Nat, k ≤ s.size ∧ i = .int .i64 k ∧ Hid (BytesAt wr w.heap.size (lowTo s.data.toList k)) ∧ Hid (Below w.heap.size w wr)) (fun i _ => s.size - (intOf i).toNat)
  case atStart => exact ⟨0, Nat.zero_le _, rfl, by rw [lowTo_zero]; exact HB, hbl⟩
  case round =>
    obtain ⟨k, hk, rfl, hbk, hbw⟩ := hrel
    by_cases hlt : k < s.size
    · have hkl : k < s.data.toList.length := by simpa using hlt
      have hkk : k < (lowTo s.data.toList k).length := by rw [lowTo_len]; exact hkl
      have hc := (hbk.out k hkk).1
      have hf := (hbk.out k hkk).2
      rw [lowTo_at _ _ hkl] at hc
      obtain ⟨c, hcc⟩ : ∃ c, c = s.data.toList[k] := ⟨_, rfl⟩
      rw [← hcc] at hc
      have HC := Lib.hid hcc
      clear hcc
      cases hg : greatB (c.toNat : Int) with
      | true =>
        have hgb := great_bd hg
        have hst := Lib.hid (low_step hkl HC.out hg hbk.out)
        go_wp2_with (go_at_call 100; refine (ref_great _ _).mono ?_; rintro e w' ⟨rfl, rfl⟩)
        go_roundw
        case rel => exact ⟨k + 1, by omega, by go_num, hst, hbw.out.setCell (Nat.le_refl _) _⟩
        case measure => simp [intOf]; omega
      | false =>
        go_wp2_with (go_at_call 100; refine (ref_great _ _).mono ?_; rintro e w' ⟨rfl, rfl⟩)
        go_roundw
        case rel => exact ⟨k + 1, by omega, by go_num, by rw [lowTo_same _ _ hkl (by rw [← HC.out]; exact lowU_other hg)]; exact hbk, hbw⟩
        case measure => simp [intOf]; omega
    · have hback := low_back Tryz.prog s wr 107 9 5 w.heap.size cap k Tryz.underlying107 Tryz.underlying5 Tryz.underlying9 (by omega) hbk.out
      go_wp2
      go_ret
      exact ⟨rfl, hbw⟩

theorem lower1 (c : UInt8) (w : World) : Calls Tryz.prog 102 #[.int .u8 (c.toNat : Int)] w fun e w' => e = .returned (.int .u8 ((lowU c).toNat : Int)) ∧ w = w' := by
  cases hg : greatB (c.toNat : Int) with
  | true =>
    have hgb := great_bd hg
    have h := Lib.hid (lowU_great hg)
    go_enter Tryz.func102, Tryz.ntmps102
    go_wp2_with (go_at_call 103; refine (let_great _ _).mono ?_; rintro e w' ⟨rfl, rfl⟩)
    go_ret
    exact ⟨ret_i (by rw [h.out]; omega), rfl⟩
  | false =>
    have h := Lib.hid (lowU_other hg)
    go_enter Tryz.func102, Tryz.ntmps102
    go_wp2_with (go_at_call 103; refine (let_great _ _).mono ?_; rintro e w' ⟨rfl, rfl⟩)
    go_ret
    exact ⟨ret_i (by rw [h.out]), rfl⟩

theorem turnedLow (s : ByteArray) (w : World) (hs : s.size ≤ maxLen) : Calls Tryz.prog 101 #[.string s, .int .i64 s.size, .func (.func 102) #[] #[]] w fun e w' => e = .returned (.string (lowS s)) ∧ Below w.heap.size w w' := by
  obtain ⟨cap, w1, hconv, hby, hbl, hlt⟩ := bytes_conv (P := Tryz.prog) w 9 107 5 s Tryz.underlying9 Tryz.underlying107 Tryz.underlying5
  unfold maxLen at hs
  have HB := Lib.hid hby
  clear hby
  go_enter Tryz.func101, Tryz.ntmps101
  go_wp2
  go_outline
  go_loopw [15] (fun i wr => ∃ k : Nat, k ≤ s.size ∧ i = .int .i64 k ∧ Hid (BytesAt wr w.heap.size (lowTo s.data.toList k)) ∧ Hid (Below w.heap.size w wr)) (fun i _ => s.size - (intOf i).toNat)
  case atStart => exact ⟨0, Nat.zero_le _, rfl, by rw [lowTo_zero]; exact HB, hbl⟩
  case round =>
    obtain ⟨k, hk, rfl, hbk, hbw⟩ := hrel
    by_cases hlt : k < s.size
    · have hkl : k < s.data.toList.length := by simpa using hlt
      have hkk : k < (lowTo s.data.toList k).length := by rw [lowTo_len]; exact hkl
      have hc := (hbk.out k hkk).1
      have hf := (hbk.out k hkk).2
      rw [lowTo_at _ _ hkl] at hc
      obtain ⟨c, hcc⟩ : ∃ c, c = s.data.toList[k] := ⟨_, rfl⟩
      rw [← hcc] at hc
      have HC := Lib.hid hcc
      clear hcc
      have hst := Lib.hid (low_step' hkl HC.out hbk.out)
      go_wp2_with (go_at_call 102; refine (lower1 _ _).mono ?_; rintro e w' ⟨rfl, rfl⟩)
      go_roundw
      case rel => exact ⟨k + 1, by omega, by go_num, hst, hbw.out.setCell (Nat.le_refl _) _⟩
      case measure => simp [intOf]; omega
    · have hback := low_back Tryz.prog s wr 107 9 5 w.heap.size cap k Tryz.underlying107 Tryz.underlying5 Tryz.underlying9 (by omega) hbk.out
      go_wp2
      go_ret
      exact ⟨rfl, hbw⟩

theorem letLower (s : ByteArray) (w : World) (hs : s.size ≤ maxLen) : Calls Tryz.prog 68 #[.string s] w fun e w' => e = .returned (.string (lowS s)) ∧ Below w.heap.size w w' := by
  go_enter Tryz.func68, Tryz.ntmps68
  go_wp2_with fail
  trace_state
  go_wp2_with (go_at_call 101; refine (turnedLow _ _ hs).mono ?_; rintro e w' ⟨rfl, hb⟩)
  go_ret
  exact ⟨rfl, hb⟩
end Go.Proofs.YtjggklfegcejhaaGreat
