/- The operations' names: the table, and the reference's row of words between blanks, say the same. Generated in part by a program (the lists of bytes). -/
import Derived.Test.YtbcpopakdlplgaaDoorAsmPlain
namespace Go.Proofs.YtbcpopakdlplgaaDoor
set_option linter.unusedVariables false
set_option linter.unusedSimpArgs false

def nameTab : List (List UInt8) := [[], [112, 117, 115, 104], [112, 111, 112], [103, 108, 111, 98, 97, 108], [112, 117, 116, 103, 108, 111, 98, 97, 108], [108, 111, 99, 97, 108], [112, 117, 116, 108, 111, 99, 97, 108], [115, 101, 108, 102], [98, 105, 110], [110, 101, 103], [110, 111, 116], [116, 101, 115, 116], [104, 97, 115], [112, 114, 111, 112], [112, 117, 116], [115, 101, 116], [117, 110, 115, 101, 116], [109, 111, 118, 101], [114, 101, 109, 111, 118, 101], [116, 114, 101, 101], [114, 97, 110, 100, 111, 109], [116, 101, 120, 116], [110, 117, 109], [116, 105, 116, 108, 101], [106, 117, 109, 112], [122, 101, 114, 111], [99, 97, 108, 108], [114, 101, 116, 117, 114, 110], [115, 116, 111, 112], [119, 105, 110], [108, 111, 115, 101], [97, 119, 97, 114, 100], [115, 116, 97, 114, 116], [104, 97, 108, 116], [116, 114, 97, 118, 101, 108], [108, 111, 111, 107], [108, 105, 115, 116], [116, 105, 99, 107], [108, 97, 98, 101, 108]]
/-- An operation's name; nothing: it is none. -/
def nmA (op : Int) : List UInt8 := if 1 ≤ op ∧ op ≤ 38 then nameTab.getD op.toNat [] else []
def allRow : List UInt8 := [32, 112, 117, 115, 104, 32, 112, 111, 112, 32, 103, 108, 111, 98, 97, 108, 32, 112, 117, 116, 103, 108, 111, 98, 97, 108, 32, 108, 111, 99, 97, 108, 32, 112, 117, 116, 108, 111, 99, 97, 108, 32, 115, 101, 108, 102, 32, 98, 105, 110, 32, 110, 101, 103, 32, 110, 111, 116, 32, 116, 101, 115, 116, 32, 104, 97, 115, 32, 112, 114, 111, 112, 32, 112, 117, 116, 32, 115, 101, 116, 32, 117, 110, 115, 101, 116, 32, 109, 111, 118, 101, 32, 114, 101, 109, 111, 118, 101, 32, 116, 114, 101, 101, 32, 114, 97, 110, 100, 111, 109, 32, 116, 101, 120, 116, 32, 110, 117, 109, 32, 116, 105, 116, 108, 101, 32, 106, 117, 109, 112, 32, 122, 101, 114, 111, 32, 99, 97, 108, 108, 32, 114, 101, 116, 117, 114, 110, 32, 115, 116, 111, 112, 32, 119, 105, 110, 32, 108, 111, 115, 101, 32, 97, 119, 97, 114, 100, 32, 115, 116, 97, 114, 116, 32, 104, 97, 108, 116, 32, 116, 114, 97, 118, 101, 108, 32, 108, 111, 111, 107, 32, 108, 105, 115, 116, 32, 116, 105, 99, 107, 32, 108, 97, 98, 101, 108, 32]
/-- The word between blanks that has a number. -/
def scanN (op : Int) : List UInt8 → Int → List UInt8 → List UInt8
  | [], _, _ => []
  | c :: t, n, one => if c ≠ 32 then scanN op t n (one ++ [c]) else if n = op ∧ 0 < op then one else scanN op t (n + 1) []
def blanks : List UInt8 → Nat
  | [] => 0
  | c :: t => (if c = 32 then 1 else 0) + blanks t
theorem scan_far (op : Int) : ∀ (l : List UInt8) (n : Int) (one : List UInt8), (op ≤ 0 ∨ op < n ∨ n + blanks l ≤ op) → scanN op l n one = []
  | [], _, _, _ => rfl
  | c :: t, n, one, h => by
    rw [scanN]
    rw [blanks] at h
    by_cases hc : c = 32
    · rw [if_pos hc] at h
      rw [if_neg (by simp [hc]), if_neg (by omega)]
      exact scan_far op t _ _ (by omega)
    · rw [if_neg hc] at h
      rw [if_pos hc]
      exact scan_far op t _ _ (by omega)
theorem blanks_all : blanks allRow = 39 := by decide +kernel
theorem scan_some : ∀ k : Fin 38, scanN ((k.val : Int) + 1) allRow 0 [] = nameTab.getD (k.val + 1) [] := by decide +kernel
theorem scan_name (op : Int) : scanN op allRow 0 [] = nmA op := by
  unfold nmA
  by_cases h : 1 ≤ op ∧ op ≤ 38
  · rw [if_pos h]
    have := scan_some ⟨(op - 1).toNat, by omega⟩
    simp only at this
    rw [show (((op - 1).toNat : Nat) : Int) + 1 = op by omega, show (op - 1).toNat + 1 = op.toNat by omega] at this
    exact this
  · rw [if_neg h]
    exact scan_far op allRow 0 [] (by rw [blanks_all]; omega)
theorem names_long : ∀ k : Fin 39, (nameTab.getD k.val []).length ≤ 9 ∧ (1 ≤ k.val → nameTab.getD k.val [] ≠ []) := by decide +kernel
theorem nmA_len (op : Int) : (nmA op).length ≤ 9 := by
  unfold nmA; split
  · rename_i h; exact (names_long ⟨op.toNat, by omega⟩).1
  · simp
theorem nmA_nil (op : Int) : (nmA op = []) ↔ ¬ (1 ≤ op ∧ op ≤ 38) := by
  unfold nmA; split
  · rename_i h
    have := (names_long ⟨op.toNat, by omega⟩).2 (by simp; omega)
    simp only at this
    exact ⟨fun e => absurd e this, fun e => absurd h e⟩
  · rename_i h; simp [h]
end Go.Proofs.YtbcpopakdlplgaaDoor
