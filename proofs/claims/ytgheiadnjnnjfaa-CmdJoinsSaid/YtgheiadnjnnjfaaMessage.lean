/- Contracts of cmd.Message and clewref38.Message: what is said of words that mean nothing. -/
import Derived.Test.YtgheiadnjnnjfaaSame
namespace Go.Proofs.Ytgheiadnjnnjfaa
open Go.RowKit Go.PlainAid

def sThat : ByteArray := ⟨#[116, 104, 97, 116]⟩
/-- The word that is told. -/
def msgW (l : List ByteArray) (at_ : Int) : ByteArray := if 0 ≤ at_ ∧ at_ < l.length then l.getD at_.toNat sThat else sThat
def msgS (er : Int) (x : ByteArray) : ByteArray :=
  if er == 0 then ByteArray.empty
  else if er == 8 || er == 3 then ⟨#[73, 32, 100, 111, 110, 39, 116, 32, 117, 110, 100, 101, 114, 115, 116, 97, 110, 100, 32]⟩ ++ x ++ ⟨#[46, 10]⟩
  else if er == 11 then ⟨#[89, 111, 117, 32, 115, 101, 101, 32, 110, 111, 32, 115, 117, 99, 104, 32, 116, 104, 105, 110, 103, 46, 10]⟩
  else if er == 10 then ⟨#[87, 104, 105, 99, 104, 32, 111, 110, 101, 32, 100, 111, 32, 121, 111, 117, 32, 109, 101, 97, 110, 63, 10]⟩
  else if er == 2 then ⟨#[84, 104, 101, 114, 101, 32, 105, 115, 32, 97, 32, 119, 111, 114, 100, 32, 109, 105, 115, 115, 105, 110, 103, 46, 10]⟩
  else ⟨#[84, 104, 97, 116, 32, 99, 97, 110, 39, 116, 32, 98, 101, 46, 10]⟩
theorem app_assoc (a x b c d : ByteArray) (h : b ++ c = d) : a ++ x ++ b ++ c = a ++ x ++ d := by rw [ByteArray.append_assoc (b := b), h]
theorem msg_tail (x : ByteArray) : ⟨#[73, 32, 100, 111, 110, 39, 116, 32, 117, 110, 100, 101, 114, 115, 116, 97, 110, 100, 32]⟩ ++ x ++ ⟨#[46]⟩ ++ ⟨#[10]⟩ = ⟨#[73, 32, 100, 111, 110, 39, 116, 32, 117, 110, 100, 101, 114, 115, 116, 97, 110, 100, 32]⟩ ++ x ++ ⟨#[46, 10]⟩ := app_assoc _ _ _ _ _ (by decide +kernel)
theorem msg_e1 : (⟨#[84, 104, 97, 116, 32, 99, 97, 110, 39, 116, 32, 98, 101, 46]⟩ : ByteArray) ++ ⟨#[10]⟩ = ⟨#[84, 104, 97, 116, 32, 99, 97, 110, 39, 116, 32, 98, 101, 46, 10]⟩ := by decide +kernel
theorem msg_e2 : (⟨#[89, 111, 117, 32, 115, 101, 101, 32, 110, 111, 32, 115, 117, 99, 104, 32, 116, 104, 105, 110, 103, 46]⟩ : ByteArray) ++ ⟨#[10]⟩ = ⟨#[89, 111, 117, 32, 115, 101, 101, 32, 110, 111, 32, 115, 117, 99, 104, 32, 116, 104, 105, 110, 103, 46, 10]⟩ := by decide +kernel
theorem msg_e3 : (⟨#[87, 104, 105, 99, 104, 32, 111, 110, 101, 32, 100, 111, 32, 121, 111, 117, 32, 109, 101, 97, 110, 63]⟩ : ByteArray) ++ ⟨#[10]⟩ = ⟨#[87, 104, 105, 99, 104, 32, 111, 110, 101, 32, 100, 111, 32, 121, 111, 117, 32, 109, 101, 97, 110, 63, 10]⟩ := by decide +kernel
theorem msg_e4 : (⟨#[84, 104, 101, 114, 101, 32, 105, 115, 32, 97, 32, 119, 111, 114, 100, 32, 109, 105, 115, 115, 105, 110, 103, 46]⟩ : ByteArray) ++ ⟨#[10]⟩ = ⟨#[84, 104, 101, 114, 101, 32, 105, 115, 32, 97, 32, 119, 111, 114, 100, 32, 109, 105, 115, 115, 105, 110, 103, 46, 10]⟩ := by decide +kernel

set_option maxHeartbeats 800000 in
theorem cmdMsg_in (l : List ByteArray) (b off k i : Nat) (c : Value) (er : Int) (x : ByteArray) (w : World) (hi : i < l.length) (_hm : l.length ≤ 9223372036854775807) (hx : w.cell? ⟨b, off + i, none⟩ = some (.string x)) (hxs : x.size ≤ 1000000) :
    Calls Try.prog 11 #[.slice (some ⟨b, off, none⟩) l.length k, .agg #[c, .int .i64 er, .int .i64 (i : Int)]] w fun e w' => e = .returned (.string (msgS er x)) ∧ w.alloc (.cells #[c, .int .i64 er, .int .i64 (i : Int)] 32) = w' := by
  have hlt := lt_cell hx
  simp only at hlt
  go_enter Try.func11, Try.ntmps11
  go_wp2
  all_goals
    go_ret
    exact ⟨ret_s (by simp [msgS, msg_tail, msg_e1, msg_e2, msg_e3, msg_e4, *]; try rfl), rfl⟩
set_option maxHeartbeats 800000 in
theorem cmdMsg_out (l : List ByteArray) (ad : Option Addr) (k : Nat) (c : Value) (er at_ : Int) (w : World) (hm : l.length ≤ 9223372036854775807) (ha : at_ < 0 ∨ (l.length : Int) ≤ at_) :
    Calls Try.prog 11 #[.slice ad l.length k, .agg #[c, .int .i64 er, .int .i64 at_]] w fun e w' => e = .returned (.string (msgS er sThat)) ∧ w.alloc (.cells #[c, .int .i64 er, .int .i64 at_] 32) = w' := by
  rcases ha with ha | ha
  all_goals
    go_enter Try.func11, Try.ntmps11
    go_wp2
  all_goals
    go_ret
    exact ⟨ret_s (by simp [msgS, sThat, msg_tail, msg_e1, msg_e2, msg_e3, msg_e4, *]; try rfl), rfl⟩
theorem cmdMsg (va : Value) (l : List ByteArray) (c : Value) (er at_ : Int) (w : World) (ha : SL w va (l.map Value.string)) (hxs : ∀ x ∈ l, x.size ≤ 1000000) :
    Calls Try.prog 11 #[va, .agg #[c, .int .i64 er, .int .i64 at_]] w fun e w' => e = .returned (.string (msgS er (msgW l at_))) ∧ w.alloc (.cells #[c, .int .i64 er, .int .i64 at_] 32) = w' := by
  have hm : l.length ≤ 9223372036854775807 := by have := ha.1; rw [List.length_map] at this; unfold maxLen at this; omega
  by_cases hin : 0 ≤ at_ ∧ at_ < l.length
  · have hl : 0 < l.length := by omega
    rcases ha.2 with ⟨h0, _⟩ | ⟨b, off, k, rfl, hlt, hc⟩
    · have : l.length = 0 := by have := congrArg List.length h0; simpa using this
      omega
    · obtain ⟨i, rfl⟩ : ∃ i : Nat, at_ = i := ⟨at_.toNat, by omega⟩
      have hi : i < l.length := by omega
      have hx := hc i (by simpa using hi)
      rw [List.getElem_map] at hx
      have hw : msgW l i = l[i] := by unfold msgW; rw [if_pos hin]; simp [hi]
      rw [hw, List.length_map]
      exact cmdMsg_in l b off k i c er l[i] w hi hm hx (hxs _ (List.getElem_mem hi))
  · obtain ⟨a, k, rfl⟩ := ha.len
    have hw : msgW l at_ = sThat := by unfold msgW; rw [if_neg hin]
    rw [hw, List.length_map]
    exact cmdMsg_out l a k c er at_ w hm (by omega)

set_option maxHeartbeats 800000 in
theorem refMsg_in (l : List ByteArray) (b off k i : Nat) (c : Value) (er : Int) (x : ByteArray) (w : World) (hi : i < l.length) (_hm : l.length ≤ 9223372036854775807) (hx : w.cell? ⟨b, off + i, none⟩ = some (.string x)) (hxs : x.size ≤ 1000000) :
    Calls Try.prog 12 #[.slice (some ⟨b, off, none⟩) l.length k, .agg #[c, .int .i64 er, .int .i64 (i : Int)]] w fun e w' => e = .returned (.string (msgS er x)) ∧ w.alloc (.cells #[c, .int .i64 er, .int .i64 (i : Int)] 32) = w' := by
  have hlt := lt_cell hx
  simp only at hlt
  go_enter Try.func12, Try.ntmps12
  go_wp2
  all_goals
    go_ret
    exact ⟨ret_s (by simp [msgS, *]; try rfl), rfl⟩
set_option maxHeartbeats 800000 in
theorem refMsg_out (l : List ByteArray) (ad : Option Addr) (k : Nat) (c : Value) (er at_ : Int) (w : World) (hm : l.length ≤ 9223372036854775807) (ha : at_ < 0 ∨ (l.length : Int) ≤ at_) :
    Calls Try.prog 12 #[.slice ad l.length k, .agg #[c, .int .i64 er, .int .i64 at_]] w fun e w' => e = .returned (.string (msgS er sThat)) ∧ w.alloc (.cells #[c, .int .i64 er, .int .i64 at_] 32) = w' := by
  rcases ha with ha | ha
  all_goals
    go_enter Try.func12, Try.ntmps12
    go_wp2
  all_goals
    go_ret
    exact ⟨ret_s (by simp [msgS, sThat, *]; try rfl), rfl⟩
theorem refMsg (va : Value) (l : List ByteArray) (c : Value) (er at_ : Int) (w : World) (ha : SL w va (l.map Value.string)) (hxs : ∀ x ∈ l, x.size ≤ 1000000) :
    Calls Try.prog 12 #[va, .agg #[c, .int .i64 er, .int .i64 at_]] w fun e w' => e = .returned (.string (msgS er (msgW l at_))) ∧ w.alloc (.cells #[c, .int .i64 er, .int .i64 at_] 32) = w' := by
  have hm : l.length ≤ 9223372036854775807 := by have := ha.1; rw [List.length_map] at this; unfold maxLen at this; omega
  by_cases hin : 0 ≤ at_ ∧ at_ < l.length
  · have hl : 0 < l.length := by omega
    rcases ha.2 with ⟨h0, _⟩ | ⟨b, off, k, rfl, hlt, hc⟩
    · have : l.length = 0 := by have := congrArg List.length h0; simpa using this
      omega
    · obtain ⟨i, rfl⟩ : ∃ i : Nat, at_ = i := ⟨at_.toNat, by omega⟩
      have hi : i < l.length := by omega
      have hx := hc i (by simpa using hi)
      rw [List.getElem_map] at hx
      have hw : msgW l i = l[i] := by unfold msgW; rw [if_pos hin]; simp [hi]
      rw [hw, List.length_map]
      exact refMsg_in l b off k i c er l[i] w hi hm hx (hxs _ (List.getElem_mem hi))
  · obtain ⟨a, k, rfl⟩ := ha.len
    have hw : msgW l at_ = sThat := by unfold msgW; rw [if_neg hin]
    rw [hw, List.length_map]
    exact refMsg_out l a k c er at_ w hm (by omega)

end Go.Proofs.Ytgheiadnjnnjfaa
