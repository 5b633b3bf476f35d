/- Contracts of clewref09.holds, clewref09.Key, clewref09.Dir, lex.Dir. -/
import Derived.Test.YtmelilppeikdiaaDoorKey
namespace Go.Proofs.YtmelilppeikdiaaDoor
open Go.RowKit Go.PlainAid

def mkB (l : List UInt8) : ByteArray := ⟨l.toArray⟩
theorem mkB_size (l : List UInt8) : (mkB l).size = l.length := by show l.toArray.size = _; simp
theorem mkB_data (l : List UInt8) : (mkB l).data.toList = l := rfl
theorem mkB_of (s : ByteArray) : mkB s.data.toList = s := rfl
theorem mkB_toList (l : List UInt8) : (mkB l).toList = l := by rw [Lib.toList_data]; rfl
theorem ext_one (s : ByteArray) (k : Nat) (hk : k < s.data.toList.length) : s.extract k (k + 1) = mkB [s.data.toList[k]] := by
  rw [Lib.extract_eq, List.drop_eq_getElem_cons hk]
  simp [mkB]
theorem mkB_app (a b : List UInt8) : mkB a ++ mkB b = mkB (a ++ b) := by
  apply ByteArray.ext
  rw [ByteArray.data_append]; simp [mkB]
theorem bt_at' (s : ByteArray) (j : Nat) (h : j < s.data.toList.length) : bt s j = ((s.data.toList[j]).toNat : Int) := by
  have h' : j < s.size := by simpa using h
  unfold bt; rw [dif_pos h']; rfl
theorem bt_eq (s : ByteArray) (j : Nat) (h : j < s.data.toList.length) (n : UInt8) : (s.data.toList[j] = n) ↔ (bt s j = (n.toNat : Int)) := by
  rw [bt_at' s j h]
  constructor
  · intro h; rw [h]
  · intro h; apply UInt8.toNat_inj.1; omega
theorem bt_32 (s : ByteArray) (j : Nat) (h : j < s.data.toList.length) : (s.data.toList[j] = 32) ↔ bt s j = 32 := bt_eq s j h 32

/-- What holds answers. -/
def holdsN (row : ByteArray) (s : ByteArray) : Int := match idxW (cutW (row.data.toList.drop 1) []) s.data.toList 0 with
  | some n => n
  | none => 0
def holdsB (row : ByteArray) (s : ByteArray) : Bool := (idxW (cutW (row.data.toList.drop 1) []) s.data.toList 0).isSome
theorem holds_some {row s : ByteArray} {n : Nat} (h : idxW (cutW (row.data.toList.drop 1) []) s.data.toList 0 = some n) : holdsN row s = n ∧ holdsB row s = true := by unfold holdsN holdsB; rw [h]; exact ⟨rfl, rfl⟩
theorem holds_none {row s : ByteArray} (h : idxW (cutW (row.data.toList.drop 1) []) s.data.toList 0 = none) : holdsN row s = 0 ∧ holdsB row s = false := by unfold holdsN holdsB; rw [h]; exact ⟨rfl, rfl⟩
theorem ret_ib {a a' : Int} {b b' : Bool} (h : a = a') (h' : b = b') : Ending.returned (.tuple #[.int .i64 a, .bool b]) = .returned (.tuple #[.int .i64 a', .bool b']) := by rw [h, h']

theorem dir_some {s : ByteArray} (h : holdsB (mkB dirsL) s = true) : dirL s.data.toList = holdsN (mkB dirsL) s + 1 ∧ 0 ≤ holdsN (mkB dirsL) s ∧ holdsN (mkB dirsL) s ≤ 1000000 := by
  have hb : ∀ (l : List (List UInt8)) (x : List UInt8) (n k : Nat), idxW l x n = some k → k ≤ n + l.length := by
    intro l
    induction l with
    | nil => intro x n k h; simp [idxW] at h
    | cons a t ih =>
      intro x n k h
      rw [idxW] at h
      by_cases e : a = x
      · rw [if_pos e] at h; simp at h; simp; omega
      · rw [if_neg e] at h; have := ih _ _ _ h; simp; omega
  have hl : dirsW.length = 12 := by decide +kernel
  unfold holdsB at h
  unfold holdsN dirL
  change (idxW dirsW s.data.toList 0).isSome = true at h
  change (match idxW dirsW s.data.toList 0 with | some n => ((n : Nat) : Int) + 1 | none => 0) = (match idxW dirsW s.data.toList 0 with | some n => ((n : Nat) : Int) | none => 0) + 1 ∧ _ ≤ (match idxW dirsW s.data.toList 0 with | some n => ((n : Nat) : Int) | none => 0) ∧ (match idxW dirsW s.data.toList 0 with | some n => ((n : Nat) : Int) | none => 0) ≤ _
  cases e : idxW dirsW s.data.toList 0 with
  | none => rw [e] at h; simp at h
  | some n =>
    have h3 := hb _ _ _ _ e
    rw [hl] at h3
    exact ⟨rfl, Int.natCast_nonneg _, by show (n : Int) ≤ 1000000; omega⟩
theorem dir_none {s : ByteArray} (h : holdsB (mkB dirsL) s = false) : dirL s.data.toList = 0 := by
  unfold holdsB at h
  unfold dirL
  change (idxW dirsW s.data.toList 0).isSome = false at h
  cases e : idxW dirsW s.data.toList 0 with
  | none => rfl
  | some n => rw [e] at h; simp at h
end Go.Proofs.YtmelilppeikdiaaDoor
