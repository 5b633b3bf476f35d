/- Contract of clewref04.Cap: a text whose first letter is made great; what key that has. -/
import Derived.Test.YtjggklfegcejhaaDictKey
import Derived.Test.YtjggklfegcejhaaFitsA
namespace Go.Proofs.Ytjggklfegcejhaa
open Go.RowKit Go.PlainAid
set_option linter.unusedVariables false
set_option linter.unusedSimpArgs false

theorem wordOk_key {l : List UInt8} (h : WordOk l) : keyW l = l := by
  unfold keyW
  have e : l.map lowU = l := by
    have h1 : l.map lowU = l.map id := List.map_congr_left (fun c hc => lowU_other (h.2.2.2 c hc).2)
    rw [h1, List.map_id]
  rw [e, List.take_of_length_le h.2.1]
/-- A text whose first letter is great. -/
def capL : List UInt8 → List UInt8
  | [] => []
  | c :: t => if smallB (c.toNat : Int) = true then (c - 32) :: t else c :: t
theorem capL_cons (c : UInt8) (t : List UInt8) : capL (c :: t) = if smallB (c.toNat : Int) = true then (c - 32) :: t else c :: t := rfl
theorem cap_sub {c : UInt8} (h : smallB (c.toNat : Int) = true) : (c - 32).toNat = c.toNat - 32 := by
  simp only [smallB, decide_eq_true_eq] at h
  rw [UInt8.toNat_sub_of_le]
  · rfl
  · rw [UInt8.le_iff_toNat_le]; show 32 ≤ c.toNat; omega
theorem cap_low {c : UInt8} (h : smallB (c.toNat : Int) = true) : lowU (c - 32) = c := by
  have e := cap_sub h
  simp only [smallB, decide_eq_true_eq] at h
  have hg : greatB ((c - 32).toNat : Int) = true := by
    simp only [greatB, decide_eq_true_eq]; rw [e]; omega
  apply UInt8.toNat_inj.1
  have h1 := lowU_great hg
  rw [e] at h1; omega
theorem cap_key {l : List UInt8} (h : WordOk l) : keyW (capL l) = l := by
  have h1 := wordOk_key h
  cases l with
  | nil => exact h1
  | cons c t =>
    rw [capL_cons]
    by_cases hs : smallB (c.toNat : Int) = true
    · rw [if_pos hs]
      have e : keyW ((c - 32) :: t) = keyW (c :: t) := by
        unfold keyW
        rw [List.map_cons, List.map_cons, cap_low hs, lowU_other (h.2.2.2 c (List.mem_cons_self ..)).2]
      rw [e, h1]
    · rw [if_neg hs]; exact h1
theorem capL_len (l : List UInt8) : (capL l).length = l.length := by
  cases l with
  | nil => rfl
  | cons c t => rw [capL_cons]; split <;> rfl
theorem cap_nil (s : ByteArray) (h : s.size = 0) : mkY (capL s.data.toList) = s := by
  have hl : s.data.toList = [] := List.length_eq_zero_iff.1 (by simpa using h)
  rw [hl]
  show mkY [] = s
  have : s.data = #[] := by simpa using hl
  unfold mkY
  cases s; simp_all
theorem cap_same (s : ByteArray) (h : 0 < s.size) (hs : smallB ((s[0]).toNat : Int) = false) : mkY (capL s.data.toList) = s := by
  have hd : s.data.toList = s[0] :: s.data.toList.drop 1 := by
    have := head_at s h
    cases hl : s.data.toList with
    | nil => rw [hl] at this; simp at this
    | cons c t => rw [hl] at this; simp at this; simp [this]
  have e : capL s.data.toList = s.data.toList := by
    rw [hd, capL_cons, if_neg (by rw [hs]; simp)]
  unfold mkY
  rw [e]
theorem cap_set (s : ByteArray) (h : 0 < s.size) (hs : smallB ((s[0]).toNat : Int) = true) : capL s.data.toList = s.data.toList.set 0 (s[0] - 32) := by
  have hd : s.data.toList = s[0] :: s.data.toList.drop 1 := by
    have := head_at s h
    cases hl : s.data.toList with
    | nil => rw [hl] at this; simp at this
    | cons c t => rw [hl] at this; simp at this; simp [this]
  rw [hd, capL_cons, if_pos hs]; rfl
end Go.Proofs.Ytjggklfegcejhaa
