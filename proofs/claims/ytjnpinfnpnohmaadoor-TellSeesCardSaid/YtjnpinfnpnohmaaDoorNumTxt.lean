/- Contracts of num.Text, num.Digits, clewref01.Text, clewref01.Digits: the decimal numeral. -/
import Derived.Test.YtjnpinfnpnohmaaDoorFmt
import Derived.Test.YtjnpinfnpnohmaaDoorTextPlain
import Derived.Test.YtjnpinfnpnohmaaDoorBase
namespace Go.Proofs.YtjnpinfnpnohmaaDoor
open Go.RowKit Go.PlainAid Go.Lib Go.Sort

theorem grow_below (w : World) (k : Nat) (os : Array Obj) : Below w.heap.size w (grow (w.drewN k) os) :=
  ⟨rfl, rfl, rfl, by simp [grow], fun i hi => by
    show (w.heap ++ os)[i]? = _
    rw [Array.getElem?_append_left hi]⟩
theorem ret_sB {a b : ByteArray} (h : a = b) : Ending.returned (.string a) = .returned (.string b) := by rw [h]

theorem numText (n : Int) (w : World) (h0 : -9223372036854775808 ≤ n) (h1 : n ≤ 9223372036854775807) (htab : Lib.TabIs Tryd.prog w "internal/strconv.uint64pow10" .u64 Lib.pow10Tab) :
    Calls Tryd.prog 46 #[.int .i64 n] w fun e w' => e = .returned (.string (mk (itoa n))) ∧ Below w.heap.size w w' := by
  go_enter Tryd.func46, Tryd.ntmps46
  go_wp2_with (go_at_call 82; refine (Tryd.strconv_Itoa n h0 h1 _ htab).mono ?_; rintro e w' ⟨rfl, k, os, rfl⟩)
  go_ret
  exact ⟨rfl, grow_below w k os⟩

theorem digs_const : ∀ u : Fin 10, (⟨#[48, 49, 50, 51, 52, 53, 54, 55, 56, 57]⟩ : ByteArray).extract u.val (u.val + 1) = mk [UInt8.ofNat (48 + u.val)] := by decide +kernel
theorem digs_small (u : Nat) (h : u < 10) : (⟨#[48, 49, 50, 51, 52, 53, 54, 55, 56, 57]⟩ : ByteArray).extract u (u + 1) = mk (decDigits u) := by
  have e : decDigits u = [UInt8.ofNat (48 + u)] := by rw [decDigits, dif_pos h]
  rw [e]; exact digs_const ⟨u, h⟩
theorem dec_step (u : Nat) (h : 10 ≤ u) : mk (decDigits (u / 10)) ++ mk (decDigits (u % 10)) = mk (decDigits u) := by
  have e : decDigits u = decDigits (u / 10) ++ [UInt8.ofNat (48 + u % 10)] := by rw [decDigits, dif_neg (by omega)]
  have e2 : decDigits (u % 10) = [UInt8.ofNat (48 + u % 10)] := by rw [decDigits, dif_pos (by omega)]
  rw [e, e2, mk_app]
theorem dec_len (u : Nat) (h : u < 18446744073709551616) : (mk (decDigits u)).size ≤ 20 := by
  rw [mk_size, decDigits_length]
  by_cases h1 : 1 ≤ u
  · have := numDigits_eq u h1 h; split at this <;> omega
  · have : u = 0 := by omega
    subst this; rw [nDigits_small (by omega)]; omega

theorem refDigits (b : Nat) : ∀ (u : Nat) (w : World), u < b → u < 18446744073709551616 →
    Calls Tryd.prog 83 #[.int .u64 (u : Int)] w fun e w' => e = .returned (.string (mk (decDigits u))) ∧ w = w' := by
  induction b with
  | zero => intro u w h; omega
  | succ b ih =>
    intro u w hb hu
    by_cases h : u < 10
    · have hs := digs_small u h
      go_enter Tryd.func83, Tryd.ntmps83
      go_wp2_with fail
      go_ret
      exact ⟨rfl, rfl⟩
    · have l1 := dec_len (u / 10) (by omega)
      have l2 := dec_len (u % 10) (by omega)
      have hs := Lib.hid (dec_step u (by omega))
      have IH := Lib.hid ih
      clear ih
      go_enter Tryd.func83, Tryd.ntmps83
      go_wp2_with fail
      refine (IH.out (u / 10) _ (by omega) (by omega)).mono ?_
      rintro e w' ⟨rfl, rfl⟩
      go_wp2_with fail
      refine (IH.out (u % 10) _ (by omega) (by omega)).mono ?_
      rintro e w' ⟨rfl, rfl⟩
      go_wp2_with fail
      go_ret
      exact ⟨ret_sB hs.out, rfl⟩
theorem itoa_pos (n : Int) (h : 0 ≤ n) : itoa n = decDigits n.toNat := by rw [itoa, if_neg (by omega)]
theorem itoa_neg' (u : Nat) (h : 0 < u) : itoa (-(u : Int)) = 45 :: decDigits u := by
  rw [itoa, if_pos (by omega)]; congr 2; omega
theorem neg_cons (l : List UInt8) : (⟨#[45]⟩ : ByteArray) ++ mk l = mk (45 :: l) := by
  have : (⟨#[45]⟩ : ByteArray) = mk [45] := rfl
  rw [this, mk_app]; rfl
theorem neg_step (u : Nat) (h : 10 ≤ u) : mk (itoa (-((u / 10 : Nat) : Int))) ++ mk (decDigits (u % 10)) = mk (itoa (-(u : Int))) := by
  rw [itoa_neg' _ (by omega), itoa_neg' _ (by omega), mk_app, List.cons_append, ← neg_cons, ← neg_cons, ← dec_step u h, ← mk_app]
theorem itoa_len (u : Nat) (h : u < 18446744073709551616) (h' : 0 < u) : (mk (itoa (-(u : Int)))).size ≤ 21 := by
  rw [itoa_neg' u h', mk_size]
  have := dec_len u h
  rw [mk_size] at this
  simp; omega
theorem tdiv_neg10 (u : Nat) : (-(u : Int)).tdiv 10 = -((u / 10 : Nat) : Int) := by
  rw [Int.neg_tdiv]; rfl

theorem refNumTextNeg (b : Nat) : ∀ (u : Nat) (w : World), u < b → 0 < u → u ≤ 9223372036854775808 →
    Calls Tryd.prog 47 #[.int .i64 (-(u : Int))] w fun e w' => e = .returned (.string (mk (itoa (-(u : Int))))) ∧ w = w' := by
  induction b with
  | zero => intro u w h; omega
  | succ b ih =>
    intro u w hb h0 hu
    by_cases h : u < 10
    · have hs := Lib.hid (itoa_neg' u h0)
      have l1 := dec_len u (by omega)
      go_enter Tryd.func47, Tryd.ntmps47
      go_wp2_with fail
      refine (refDigits (u + 1) u _ (by omega) (by omega)).mono ?_
      rintro e w' ⟨rfl, rfl⟩
      go_wp2_with fail
      go_ret
      exact ⟨ret_sB (by rw [hs.out]; exact neg_cons _), rfl⟩
    · have l1 := itoa_len (u / 10) (by omega) (by omega)
      have l2 := dec_len (u % 10) (by omega)
      have hq := tdiv_neg10 u
      have hs := neg_step u (by omega)
      have C1 : ∀ w, Calls Tryd.prog 47 #[.int .i64 (-((u / 10 : Nat) : Int))] w fun e w' => e = .returned (.string (mk (itoa (-((u / 10 : Nat) : Int))))) ∧ w = w' := fun w => ih (u / 10) w (by omega) (by omega) (by omega)
      generalize mk (itoa (-((u / 10 : Nat) : Int))) = S at l1 hs C1
      generalize mk (itoa (-(u : Int))) = R at hs ⊢
      have IH := Lib.hid C1
      have HS := Lib.hid hs
      clear ih C1 hs
      go_enter Tryd.func47, Tryd.ntmps47
      go_wp2_with fail
      refine (IH.out _).mono ?_
      rintro e w' ⟨rfl, rfl⟩
      go_wp2_with fail
      rw [show (10 * -((u : Int) / 10) + (u : Int)) = ((u % 10 : Nat) : Int) from by omega]
      refine (refDigits (u % 10 + 1) (u % 10) _ (by omega) (by omega)).mono ?_
      rintro e w' ⟨rfl, rfl⟩
      go_wp2_with fail
      go_ret
      exact ⟨ret_sB HS.out, rfl⟩
theorem refNumText (n : Int) (w : World) (h0 : -9223372036854775808 ≤ n) (h1 : n ≤ 9223372036854775807) :
    Calls Tryd.prog 47 #[.int .i64 n] w fun e w' => e = .returned (.string (mk (itoa n))) ∧ w = w' := by
  by_cases h : n < 0
  · have e : n = -((n.natAbs : Nat) : Int) := by omega
    rw [e]
    exact refNumTextNeg (n.natAbs + 1) n.natAbs w (by omega) (by omega) (by omega)
  · obtain ⟨u, rfl⟩ := Int.eq_ofNat_of_zero_le (show 0 ≤ n by omega)
    have hs : Hid (itoa (u : Int) = decDigits u) := Lib.hid (by rw [itoa_pos _ (by omega), Int.toNat_natCast])
    go_enter Tryd.func47, Tryd.ntmps47
    go_wp2_with fail
    refine (refDigits (u + 1) u _ (by omega) (by omega)).mono ?_
    rintro e w' ⟨rfl, rfl⟩
    go_wp2_with fail
    go_ret
    exact ⟨ret_sB (by rw [hs.out]), rfl⟩
end Go.Proofs.YtjnpinfnpnohmaaDoor
