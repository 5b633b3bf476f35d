/- The plain law of a number's text: read back, it is that number. No program in sight. -/
import Derived.Test.YtjnpinfnpnohmaaDoorNumPlain
import Derived.Lib.ItoaNum
import Derived.Lib.Strings
namespace Go.Proofs.YtjnpinfnpnohmaaDoor
open Go.PlainAid Go.Lib

def mk (l : List UInt8) : ByteArray := ⟨l.toArray⟩
theorem mk_size (l : List UInt8) : (mk l).size = l.length := by show l.toArray.size = _; simp
theorem mk_app (a b : List UInt8) : mk a ++ mk b = mk (a ++ b) := by
  apply ByteArray.ext
  rw [ByteArray.data_append]; simp [mk]
theorem bt_mk (l : List UInt8) (k : Nat) (h : k < l.length) : bt (mk l) k = (l[k].toNat : Int) := by
  unfold bt
  rw [dif_pos (by rw [mk_size]; exact h)]
  rfl
theorem nv_congr {s t : ByteArray} : ∀ {k : Nat}, (∀ j, j < k → bt s j = bt t j) → nv s k = nv t k
  | 0, _ => rfl
  | k + 1, h => by simp only [nv]; rw [nv_congr (k := k) (fun j hj => h j (by omega)), h k (by omega)]
theorem bt_snoc (l : List UInt8) (c : UInt8) (j : Nat) (h : j < l.length) : bt (mk (l ++ [c])) j = bt (mk l) j := by
  rw [bt_mk _ _ (by simp; omega), bt_mk _ _ h, List.getElem_append_left h]
theorem bt_last (l : List UInt8) (c : UInt8) : bt (mk (l ++ [c])) l.length = (c.toNat : Int) := by
  rw [bt_mk _ _ (by simp)]; simp
theorem ofNat_dig (n : Nat) (h : n < 10) : (UInt8.ofNat (48 + n)).toNat = 48 + n := by
  rw [UInt8.toNat_ofNat']; omega

theorem dec_facts (u : Nat) : (∀ j, j < (decDigits u).length → 48 ≤ bt (mk (decDigits u)) j ∧ bt (mk (decDigits u)) j ≤ 57) ∧ nv (mk (decDigits u)) (decDigits u).length = u ∧ 0 < (decDigits u).length ∧ (bt (mk (decDigits u)) 0 = 48 → u = 0) ∧ ((decDigits u).length = 1 ∨ 10 ≤ u) := by
  induction u using Nat.strongRecOn with
  | _ u ih =>
    by_cases h : u < 10
    · have e : decDigits u = [UInt8.ofNat (48 + u)] := by rw [decDigits, dif_pos h]
      have hb : bt (mk [UInt8.ofNat (48 + u)]) 0 = 48 + (u : Int) := by
        rw [bt_mk _ _ (by simp)]; simp only [List.getElem_cons_zero]; rw [ofNat_dig u h]; omega
      rw [e]
      refine ⟨fun j hj => ?_, ?_, by simp, fun h' => ?_, .inl rfl⟩
      · have : j = 0 := by simp at hj; omega
        subst this; rw [hb]; omega
      · simp only [List.length_singleton, nv]; rw [hb]; omega
      · rw [hb] at h'; omega
    · have e : decDigits u = decDigits (u / 10) ++ [UInt8.ofNat (48 + u % 10)] := by rw [decDigits, dif_neg h]
      obtain ⟨h1, h2, h3, h4, _⟩ := ih (u / 10) (by omega)
      have hlast : bt (mk (decDigits (u / 10) ++ [UInt8.ofNat (48 + u % 10)])) (decDigits (u / 10)).length = 48 + ((u % 10 : Nat) : Int) := by
        rw [bt_last, ofNat_dig _ (by omega)]; omega
      rw [e]
      refine ⟨fun j hj => ?_, ?_, by simp, fun h' => ?_, .inr (by omega)⟩
      · by_cases hj' : j < (decDigits (u / 10)).length
        · rw [bt_snoc _ _ _ hj']; exact h1 j hj'
        · have : j = (decDigits (u / 10)).length := by simp at hj; omega
          subst this; rw [hlast]; omega
      · rw [List.length_append, List.length_singleton]
        simp only [nv]
        rw [nv_congr (t := mk (decDigits (u / 10))) (fun j hj => bt_snoc _ _ _ hj), h2, hlast]; omega
      · rw [bt_snoc _ _ _ h3] at h'
        have := h4 h'; omega
theorem decT_form (u : Nat) : form (mk (decDigits u)) = true ∧ nv (mk (decDigits u)) (mk (decDigits u)).size = u ∧ 48 ≤ bt (mk (decDigits u)) 0 := by
  obtain ⟨h1, h2, h3, h4, h5⟩ := dec_facts u
  rw [mk_size]
  refine ⟨?_, h2, (h1 0 h3).1⟩
  unfold form
  rw [mk_size]
  simp only [Bool.and_eq_true, decide_eq_true_eq]
  refine ⟨⟨h3, ?_⟩, dgs_all h1⟩
  simp only [Bool.not_eq_true', Bool.and_eq_false_iff, decide_eq_false_iff_not]
  rcases h5 with h | h
  · left; omega
  · right; intro hh; have := h4 hh; omega
theorem ext_oneT (c : UInt8) (l : List UInt8) : (mk (c :: l)).extract 1 (mk (c :: l)).size = mk l := by
  rw [Lib.extract_eq, mk_size]
  simp [mk]
theorem parse_text (n : Int) (h0 : -32768 ≤ n) (h1 : n ≤ 32767) : parV (mk (itoa n)) = n ∧ parE (mk (itoa n)) = 0 := by
  by_cases hn : n < 0
  · have e : itoa n = 45 :: decDigits n.natAbs := by rw [itoa, if_pos hn]
    obtain ⟨f1, f2, f3⟩ := decT_form n.natAbs
    have hneg : negB (mk (45 :: decDigits n.natAbs)) = true := by
      unfold negB
      rw [mk_size, bt_mk _ _ (by simp)]
      simp
    have ho := numE_ok (most := 32768) f1 (by rw [f2]; omega)
    rw [f2] at ho
    rw [e]
    unfold parV parE
    rw [if_pos hneg, if_pos hneg, ext_oneT, ho.1, ho.2]
    have hz : ((n.natAbs : Nat) : Int) ≠ 0 := by omega
    rw [if_pos ⟨rfl, hz⟩, if_neg (by simp), if_neg hz]
    exact ⟨by omega, rfl⟩
  · have e : itoa n = decDigits n.toNat := by rw [itoa, if_neg hn]
    obtain ⟨f1, f2, f3⟩ := decT_form n.toNat
    have hneg : negB (mk (decDigits n.toNat)) = false := by
      unfold negB
      have : ¬ bt (mk (decDigits n.toNat)) 0 = 45 := by omega
      simp [this]
    have ho := numE_ok (most := 32767) f1 (by rw [f2]; omega)
    rw [f2] at ho
    rw [e]
    unfold parV parE
    rw [hneg]
    simp only [Bool.false_eq_true, if_false]
    exact ⟨by rw [ho.2]; omega, ho.1⟩
end Go.Proofs.YtjnpinfnpnohmaaDoor
