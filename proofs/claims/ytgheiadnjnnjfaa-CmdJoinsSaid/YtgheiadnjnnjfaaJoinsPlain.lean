/- The plain law of CmdJoins: the parts of two lines with a point between are those of both; small letters mean the same. -/
import Derived.Test.YtgheiadnjnnjfaaAwake38
namespace Go.Proofs.Ytgheiadnjnnjfaa
open Go.RowKit Go.PlainAid

theorem row_low (c : UInt8) : isRow (lowU c) = isRow c := by
  cases hg : greatB (c.toNat : Int) with
  | false => rw [lowU_other hg]
  | true =>
    have h := lowU_great hg
    have hb := great_bd hg
    unfold isRow rowB
    rw [h]
    have h1 : greatB (c.toNat : Int) = true := hg
    have h2 : smallB ((c.toNat : Int) + 32) = true := by simp [smallB]; omega
    rw [h1, h2]; simp
theorem low_low (c : UInt8) : lowU (lowU c) = lowU c := by
  cases hg : greatB (c.toNat : Int) with
  | false => rw [lowU_other hg, lowU_other hg]
  | true =>
    have h := lowU_great hg
    have hb := great_bd hg
    refine lowU_other ?_
    rw [h]; simp [greatB]; omega
theorem low_notrow {c : UInt8} (h : isRow c = false) : lowU c = c := by
  refine lowU_other ?_
  unfold isRow rowB at h
  cases hg : greatB (c.toNat : Int) with
  | false => rfl
  | true => simp [hg] at h
theorem wordsG_low : ∀ (l cur : List UInt8), wordsG (l.map lowU) cur = wordsG l cur
  | [], cur => rfl
  | c :: t, cur => by
    rw [List.map_cons, wordsG, wordsG, row_low, low_low, wordsG_low t, wordsG_low t]
    cases h : isRow c with
    | true => rfl
    | false => rw [low_notrow h]
theorem wordsG_dot : ∀ (l m cur : List UInt8), wordsG (l ++ 46 :: m) cur = wordsG l cur ++ ([46] :: wordsG m [])
  | [], m, cur => by
    have h : isRow 46 = false := by decide +kernel
    simp only [List.nil_append, wordsG, h]
    simp
  | c :: t, m, cur => by
    rw [List.cons_append, wordsG, wordsG_dot t, wordsG_dot t, wordsG]
    split <;> simp
theorem wordsS_low (s : ByteArray) : wordsS (lowS s) = wordsS s := by
  unfold wordsS restW lowS
  simp only [List.drop_zero]
  rw [wordsG_low]
theorem wordsS_dot (a b : ByteArray) : wordsS (a ++ dotS ++ b) = wordsS a ++ (dotS :: wordsS b) := by
  unfold wordsS restW
  have : (a ++ dotS ++ b).data.toList = a.data.toList ++ 46 :: b.data.toList := by
    simp [ByteArray.data_append, dotS]
  simp only [List.drop_zero]
  rw [this, wordsG_dot]
  simp [mkS, dotS]
theorem lowS_size (s : ByteArray) : (lowS s).size = s.size := by
  show (s.data.toList.map lowU).toArray.size = s.size
  simp
theorem partsG_dot : ∀ (l m cur : List ByteArray), partsG (l ++ dotS :: m) cur = partsG l cur ++ partsG m []
  | [], m, cur => by
    have h : isSep dotS = true := by decide +kernel
    simp only [List.nil_append, partsG, h, if_true]
  | x :: t, m, cur => by
    rw [List.cons_append, partsG, partsG_dot t, partsG_dot t, partsG]
    split <;> simp
theorem parts_dot2 (a b : ByteArray) : parts (wordsS (a ++ dotS ++ b)) = parts (wordsS a) ++ parts (wordsS b) := by
  rw [wordsS_dot]; exact partsG_dot _ _ _
theorem split_low (a : ByteArray) : splitL (lowS a) = splitL a ∧ splitE (lowS a) = splitE a := by
  unfold splitL splitE
  rw [wordsS_low, lowS_size]; exact ⟨rfl, rfl⟩
theorem join_size (a b : ByteArray) : (a ++ dotS ++ b).size = a.size + 1 + b.size := by
  rw [ByteArray.size_append, ByteArray.size_append]; rfl
theorem split_val (s : ByteArray) (h : s.size ≤ 256) : ((parts (wordsS s)).length ≤ 32 → splitE s = 0 ∧ splitL s = parts (wordsS s)) ∧ (32 < (parts (wordsS s)).length → splitE s = 7 ∧ splitL s = []) := by
  unfold splitE splitL
  rw [if_pos h, if_pos h]
  exact ⟨fun k => ⟨if_pos k, if_pos k⟩, fun k => ⟨if_neg (by omega), if_neg (by omega)⟩⟩
/-- What both lines together come to. -/
theorem join_bad (a b : ByteArray) (ha : a.size ≤ 120) (hb : b.size ≤ 120) (h : splitE a ≠ 0 ∨ splitE b ≠ 0 ∨ 32 < (splitL a).length + (splitL b).length) : splitE (a ++ dotS ++ b) = 7 := by
  have hp := congrArg List.length (parts_dot2 a b)
  rw [List.length_append] at hp
  have va := split_val a (by omega)
  have vb := split_val b (by omega)
  have vc := split_val (a ++ dotS ++ b) (by rw [join_size]; omega)
  refine (vc.2 ?_).1
  by_cases k1 : (parts (wordsS a)).length ≤ 32
  · by_cases k2 : (parts (wordsS b)).length ≤ 32
    · rw [(va.1 k1).1, (va.1 k1).2, (vb.1 k2).1, (vb.1 k2).2] at h
      rcases h with h | h | h
      · exact absurd rfl h
      · exact absurd rfl h
      · omega
    · omega
  · omega
theorem join_good (a b : ByteArray) (ha : a.size ≤ 120) (hb : b.size ≤ 120) (h1 : splitE a = 0) (h2 : splitE b = 0) (h3 : (splitL a).length + (splitL b).length ≤ 32) : splitE (a ++ dotS ++ b) = 0 ∧ splitL (a ++ dotS ++ b) = splitL a ++ splitL b := by
  have hp := parts_dot2 a b
  have hp2 := congrArg List.length hp
  rw [List.length_append] at hp2
  have va := split_val a (by omega)
  have vb := split_val b (by omega)
  have vc := split_val (a ++ dotS ++ b) (by rw [join_size]; omega)
  have k1 : (parts (wordsS a)).length ≤ 32 := Nat.le_of_not_lt fun e => by rw [(va.2 e).1] at h1; omega
  have k2 : (parts (wordsS b)).length ≤ 32 := Nat.le_of_not_lt fun e => by rw [(vb.2 e).1] at h2; omega
  rw [(va.1 k1).2, (vb.1 k2).2] at h3 ⊢
  have := vc.1 (by omega)
  exact ⟨this.1, this.2.trans hp⟩
theorem splitL_len (s : ByteArray) : (splitL s).length ≤ 32 := by
  unfold splitL
  split
  · split
    · assumption
    · simp
  · simp
theorem splitE_cases (s : ByteArray) (h : s.size ≤ 256) : splitE s = 0 ∨ splitE s = 7 := by
  unfold splitE; rw [if_pos h]; split <;> simp
end Go.Proofs.Ytgheiadnjnnjfaa
