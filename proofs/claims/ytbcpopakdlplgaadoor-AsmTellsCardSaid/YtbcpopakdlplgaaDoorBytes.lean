/- Texts as lists of bytes (for seats without the texts of package lex). -/
import Derived.Test.YtbcpopakdlplgaaDoorMem
namespace Go.Proofs.YtbcpopakdlplgaaDoor
open Go.RowKit Go.PlainAid
set_option linter.unusedVariables false
set_option linter.unusedSimpArgs false

def mkB (l : List UInt8) : ByteArray := ⟨l.toArray⟩
theorem mkB_size (l : List UInt8) : (mkB l).size = l.length := by show l.toArray.size = _; simp
theorem mkB_of (s : ByteArray) : mkB s.data.toList = s := rfl
theorem mkB_toList (l : List UInt8) : (mkB l).toList = l := by rw [Lib.toList_data]; rfl
theorem mkB_app (a b : List UInt8) : mkB a ++ mkB b = mkB (a ++ b) := by
  apply ByteArray.ext
  rw [ByteArray.data_append]; simp [mkB]
theorem mkB_inj {a b : List UInt8} (h : mkB a = mkB b) : a = b := by
  have := congrArg (fun s : ByteArray => s.data.toList) h
  simpa [mkB] using this
theorem by_at (s : ByteArray) (j : Nat) (h : j < s.data.toList.length) : bt s j = ((s.data.toList[j]).toNat : Int) := by
  have h' : j < s.size := by simpa using h
  unfold bt; rw [dif_pos h']; rfl
theorem by_eq (s : ByteArray) (j : Nat) (h : j < s.data.toList.length) (c : UInt8) : (s.data.toList[j] = c) ↔ (bt s j = (c.toNat : Int)) := by
  rw [by_at s j h]
  constructor
  · intro h; rw [h]
  · intro h; apply UInt8.toNat_inj.1; omega
theorem by_cut (s : ByteArray) (i k : Nat) : s.extract i k = mkB ((s.data.toList.drop i).take (k - i)) := by
  rw [Lib.extract_eq]; rfl
theorem by_len (s : ByteArray) : s.data.toList.length = s.size := by simp

/-- Texts as values. -/
def strV (l : List UInt8) : Value := .string (mkB l)
theorem strV_one (l : List UInt8) : ∀ u ∈ [strV l], u.oneCell' = true := ow_one rfl
theorem Tryd.infoStr : (Tryd.prog.info? 9).map (fun i => (i.zero, i.size, i.bytes)) = some (some (.string ByteArray.empty), 1, 16) := by kernel_rfl
/-- Texts that the call owns. -/
def OwS (w : World) (base : Nat) (v : Value) (L : List (List UInt8)) : Prop := w.ownsRow base 9 1 v L.length (L.map strV)
theorem OwS.nil (w : World) (base : Nat) : OwS w base (.slice none 0 0) [] := World.ownsRow_nil _ _ _ _
theorem OwS.snoc {w : World} {base : Nat} {v : Value} {L : List (List UInt8)} {x : List UInt8} (h : w.ownsRow base 9 1 v (L.length + 1) (L.map strV ++ [strV x])) : OwS w base v (L ++ [x]) := by
  unfold OwS; simpa using h
theorem OwS.sl {w : World} {base : Nat} {v : Value} {L : List (List UInt8)} (h : OwS w base v L) (hm : L.length ≤ maxLen) : SL w v (L.map strV) := SL.own h hm
end Go.Proofs.YtbcpopakdlplgaaDoor
