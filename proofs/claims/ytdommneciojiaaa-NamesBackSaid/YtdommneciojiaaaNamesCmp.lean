/- Contracts of cmp.Compare at texts, of the closures that compare names, of slices.BinarySearchFunc at names, names.Find, names.Of, names.Text. -/
import Derived.Test.YtdommneciojiaaaNamesPlain
import Derived.BigQuiet
import Derived.Deep.QuietTactic
namespace Go.Proofs.Ytdommneciojiaaa
open Go.RowKit Go.PlainAid
set_option linter.unusedVariables false
set_option linter.unusedSimpArgs false

theorem strNaN (a : ByteArray) (w : World) : Calls Try.prog 50 #[.string a] w fun e w' => e = .returned (.bool false) ∧ w = w' := by
  go_enter Try.func50, Try.ntmps50
  go_wp2
  go_ret
  exact ⟨rfl, rfl⟩
theorem cmpStr (a b : ByteArray) (w : World) : Calls Try.prog 28 #[.string a, .string b] w fun e w' => e = .returned (.int .i64 (cmpS a.toList b.toList)) ∧ w = w' := by
  cases h1 : Op.bytesLess a.toList b.toList with
  | true =>
    have HR : Hid (cmpS a.toList b.toList = -1) := Lib.hid (by unfold cmpS ltS; rw [h1]; rfl)
    go_enter Try.func28, Try.ntmps28
    go_wp2_with (go_at_call 50; refine (strNaN _ _).mono ?_; rintro e w' ⟨rfl, rfl⟩)
    go_ret
    exact ⟨ret_i HR.out.symm, rfl⟩
  | false =>
    by_cases h2 : a.toList = b.toList
    · have HR : Hid (cmpS a.toList b.toList = 0) := Lib.hid (by unfold cmpS; rw [h2, ltS_irrefl]; rfl)
      have h3 : (a.toList == b.toList) = true := by simpa using h2
      clear h2
      go_enter Try.func28, Try.ntmps28
      go_wp2_with (go_at_call 50; refine (strNaN _ _).mono ?_; rintro e w' ⟨rfl, rfl⟩)
      go_ret
      exact ⟨ret_i HR.out.symm, rfl⟩
    · have h3 : (a.toList == b.toList) = false := by simpa using h2
      have HR : Hid (cmpS a.toList b.toList = 1) := Lib.hid (by
        unfold cmpS
        rw [show ltS a.toList b.toList = false from h1]
        cases hh : ltS b.toList a.toList with
        | true => rfl
        | false => exact absurd (ltS_eq h1 hh) h2)
      clear h2
      go_enter Try.func28, Try.ntmps28
      go_wp2_with (go_at_call 50; refine (strNaN _ _).mono ?_; rintro e w' ⟨rfl, rfl⟩)
      go_ret
      exact ⟨ret_i HR.out.symm, rfl⟩

/-- A name's cells. -/
def nmCells (x : NM) : List Value := [.string ⟨x.nm.toArray⟩, .int .i64 x.kd, .int .i64 x.nu]
def nmRows (l : List NM) : List (List Value) := l.map nmCells
theorem mk_toList (l : List UInt8) : (⟨l.toArray⟩ : ByteArray).toList = l := by rw [Lib.toList_data]
theorem cmpL (a b : List UInt8) (w : World) : Calls Try.prog 28 #[.string ⟨a.toArray⟩, .string ⟨b.toArray⟩] w fun e w' => e = .returned (.int .i64 (cmpS a b)) ∧ w = w' := by
  have := cmpStr ⟨a.toArray⟩ ⟨b.toArray⟩ w
  rw [mk_toList, mk_toList] at this; exact this
/-- The closure by which Find looks. -/
theorem findCmp (x : NM) (s : List UInt8) (w : World) : Calls Try.prog 34 #[.agg (nmCells x).toArray, .string ⟨s.toArray⟩] w fun e w' => e = .returned (.int .i64 (cmpS x.nm s)) ∧ w' = w.alloc (.cells (nmCells x).toArray 46) := by
  have HC := Lib.hid (fun w => cmpL x.nm s w)
  unfold nmCells
  go_enter Try.func34, Try.ntmps34
  go_wp2_with (go_at_call 28; refine (HC.out _).mono ?_; rintro e w' ⟨rfl, rfl⟩)
  go_ret
  exact ⟨rfl, rfl⟩
/-- The closure by which Make sorts. -/
theorem sortCmp (x y : NM) (w : World) : Calls Try.prog 27 #[.agg (nmCells x).toArray, .agg (nmCells y).toArray] w fun e w' => e = .returned (.int .i64 (cmpS x.nm y.nm)) ∧ w' = (w.alloc (.cells (nmCells x).toArray 46)).alloc (.cells (nmCells y).toArray 46) := by
  have HC := Lib.hid (fun w => cmpL x.nm y.nm w)
  unfold nmCells
  go_enter Try.func27, Try.ntmps27
  go_wp2_with (go_at_call 28; refine (HC.out _).mono ?_; rintro e w' ⟨rfl, rfl⟩)
  go_ret
  exact ⟨rfl, rfl⟩
end Go.Proofs.Ytdommneciojiaaa
