/- The plain law of a line's words: lists of bytes, no program in sight. -/
import Derived.Test.YtgheiadnjnnjfaaLower
namespace Go.Proofs.Ytgheiadnjnnjfaa
open Go.RowKit Go.PlainAid

def isRow (c : UInt8) : Bool := rowB (c.toNat : Int)
/-- The words of bytes; cur: the word that has begun, in small letters. -/
def wordsG : List UInt8 → List UInt8 → List (List UInt8)
  | [], cur => if cur.isEmpty then [] else [cur]
  | c :: t, cur => if isRow c then wordsG t (cur ++ [lowU c]) else (if cur.isEmpty then [] else [cur]) ++ ((if c = 46 ∨ c = 44 then [[c]] else []) ++ wordsG t [])
def mkS (l : List UInt8) : ByteArray := ⟨l.toArray⟩
/-- The words that begin at place k or behind it. -/
def restW (s : ByteArray) (k : Nat) : List ByteArray := (wordsG (s.data.toList.drop k) []).map mkS
def wordsS (s : ByteArray) : List ByteArray := restW s 0

theorem wordsG_run : ∀ (p r cur : List UInt8), (∀ c ∈ p, isRow c = true) → wordsG (p ++ r) cur = wordsG r (cur ++ p.map lowU)
  | [], r, cur, _ => by simp
  | c :: t, r, cur, h => by
    have hc := h c (by simp)
    rw [List.cons_append, wordsG, if_pos hc, wordsG_run t r _ (fun x hx => h x (by simp [hx]))]
    simp
theorem wordsG_flush (r cur : List UInt8) (hc : cur ≠ []) (hr : r = [] ∨ ∃ c t, r = c :: t ∧ isRow c = false) : wordsG r cur = cur :: wordsG r [] := by
  have he : cur.isEmpty = false := by cases cur <;> simp_all
  rcases hr with rfl | ⟨c, t, rfl, hn⟩
  · simp [wordsG, he]
  · simp [wordsG, he, hn]
theorem bt_at (s : ByteArray) (j : Nat) (h : j < s.data.toList.length) : bt s j = ((s.data.toList[j]).toNat : Int) := by
  have h' : j < s.size := by simpa using h
  unfold bt; rw [dif_pos h']; rfl
theorem isRow_at (s : ByteArray) (j : Nat) (h : j < s.data.toList.length) : isRow (s.data.toList[j]) = rowB (bt s j) := by rw [bt_at s j h]; rfl

theorem rest_end (s : ByteArray) {k : Nat} (h : s.size ≤ k) : restW s k = [] := by
  unfold restW; rw [List.drop_eq_nil_of_le (by simpa using h)]; rfl
/-- A word of m bytes stands at k. -/
theorem rest_word (s : ByteArray) (k m : Nat) (hm : 0 < m) (hk : k + m ≤ s.size) (hr : ∀ j, j < m → rowB (bt s (k + j)) = true) (he : k + m = s.size ∨ rowB (bt s (k + m)) = false) :
    restW s k = lowS (s.extract k (k + m)) :: restW s (k + m) := by
  have hl : s.data.toList.length = s.size := by simp
  unfold restW
  have e1 : s.data.toList.drop k = (s.data.toList.drop k).take m ++ s.data.toList.drop (k + m) := by
    rw [← List.drop_drop]; exact (List.take_append_drop m _).symm
  rw [e1, wordsG_run _ _ _ (fun c hc => by
    obtain ⟨j, hj, rfl⟩ := List.getElem_of_mem hc
    simp only [List.length_take, List.length_drop] at hj
    rw [List.getElem_take, List.getElem_drop, isRow_at s (k + j) (by omega)]
    exact hr j (by omega)), List.nil_append, wordsG_flush]
  · rw [List.map_cons]
    congr 1
    unfold mkS lowS
    rw [Lib.extract_data]
    rw [Nat.add_sub_cancel_left]
  · have : 0 < (((s.data.toList.drop k).take m).map lowU).length := by simp; omega
    exact List.ne_nil_of_length_pos this
  · rcases he with he | he
    · left; exact List.drop_eq_nil_of_le (by omega)
    · by_cases hke : k + m = s.size
      · left; exact List.drop_eq_nil_of_le (by omega)
      · right
        refine ⟨_, _, List.drop_eq_getElem_cons (by omega), ?_⟩
        rw [isRow_at s _ (by omega)]; exact he
/-- A byte that is of no word stands at k. -/
theorem rest_sign (s : ByteArray) (k : Nat) (hk : k < s.size) (hr : rowB (bt s k) = false) :
    restW s k = (if bt s k = 46 ∨ bt s k = 44 then [s.extract k (k + 1)] else []) ++ restW s (k + 1) := by
  have hl : k < s.data.toList.length := by simpa using hk
  unfold restW
  rw [List.drop_eq_getElem_cons hl, wordsG, isRow_at s k hl, hr]
  have hb : ∀ n : UInt8, (s.data.toList[k] = n) ↔ (bt s k = (n.toNat : Int)) := fun n => by
    rw [bt_at s k hl]
    constructor
    · intro h; rw [h]
    · intro h; apply UInt8.toNat_inj.1; omega
  have h46 := hb 46
  have h44 := hb 44
  rw [show ((46 : UInt8).toNat : Int) = 46 from rfl] at h46
  rw [show ((44 : UInt8).toNat : Int) = 44 from rfl] at h44
  simp only [h46, h44, Bool.false_eq_true, if_false, List.isEmpty_nil, if_true, List.nil_append, List.map_append]
  congr 1
  have e : s.extract k (k + 1) = mkS [s.data.toList[k]] := by
    unfold mkS
    rw [Lib.extract_eq, List.drop_eq_getElem_cons hl]
    simp
  split
  · rw [e]; rfl
  · rfl
end Go.Proofs.Ytgheiadnjnnjfaa
