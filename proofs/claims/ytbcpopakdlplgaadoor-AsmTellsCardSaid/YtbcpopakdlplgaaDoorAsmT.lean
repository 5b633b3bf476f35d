/- clewref30.Disassemble: the plain law of its loops. No program in sight. -/
import Derived.Test.YtbcpopakdlplgaaDoorAsmPlain
namespace Go.Proofs.YtbcpopakdlplgaaDoor
set_option linter.unusedVariables false
set_option linter.unusedSimpArgs false

theorem begs_len : ∀ (ps : List (IN × Nat)) (a : Nat), (begsGo ps a).length = ps.length
  | [], _ => rfl
  | p :: t, a => by rw [begsGo, List.length_cons, begs_len t, List.length_cons]
theorem begs_at : ∀ (ps : List (IN × Nat)) (a i : Nat), i < ps.length → (begsGo ps a)[i]? = some ((a + bpos ps i : Nat) : Int)
  | [], _, _, h => by simp at h
  | p :: t, a, 0, h => by cases t <;> simp [begsGo, bpos]
  | p :: t, a, i + 1, h => by
    simp only [begsGo, List.getElem?_cons_succ]
    rw [begs_at t (a + p.2) i (by simpa using h)]
    show some (((a + p.2 + bpos t i : Nat)) : Int) = some (((a + (p.2 + bpos t i) : Nat)) : Int)
    congr 2; omega
def posL (ps : List (IN × Nat)) (n : Nat) : List Int := begsGo ps 0 ++ [(n : Int)]
theorem posL_len (ps : List (IN × Nat)) (n : Nat) : (posL ps n).length = ps.length + 1 := by unfold posL; simp [begs_len]
theorem posL_at {ps : List (IN × Nat)} {n : Nat} (hn : bpos ps ps.length = n) {i : Nat} (h : i ≤ ps.length) : (posL ps n)[i]? = some (bpos ps i : Int) := by
  unfold posL
  by_cases e : i = ps.length
  · subst e
    rw [List.getElem?_append_right (by rw [begs_len]; exact Nat.le_refl _), begs_len, Nat.sub_self, hn]; rfl
  · rw [List.getElem?_append_left (by rw [begs_len]; omega), begs_at ps 0 i (by omega), Nat.zero_add]
/-- The last place ahead that lies where. -/
def toK (ps : List (IN × Nat)) (tgt : Int) : Nat → Int
  | 0 => -1
  | j + 1 => if (bpos ps j : Int) = tgt then (j : Int) else toK ps tgt j
theorem toK_bd (ps : List (IN × Nat)) (tgt : Int) : ∀ j, -1 ≤ toK ps tgt j ∧ toK ps tgt j < j
  | 0 => by simp [toK]
  | j + 1 => by
    have := toK_bd ps tgt j
    rw [toK]; split <;> omega
theorem toK_none {ps : List (IN × Nat)} {tgt : Int} (h : findB ps tgt = none) : toK ps tgt (ps.length + 1) = -1 := by
  have hn : ∀ r, r ≤ ps.length → ¬ (bpos ps r : Int) = tgt := fun r hr e => by
    unfold findB at h
    rw [List.find?_eq_none] at h
    have := h r (List.mem_range.2 (by omega))
    simp [e] at this
  have : ∀ j, j ≤ ps.length + 1 → toK ps tgt j = -1 := by
    intro j
    induction j with
    | zero => intro _; rfl
    | succ j ih => intro hj; rw [toK, if_neg (hn j (by omega)), ih (by omega)]
  exact this _ (Nat.le_refl _)
theorem toK_some {ps : List (IN × Nat)} (hp : ∀ p ∈ ps, 1 ≤ p.2) {tgt : Int} {r : Nat} (h : findB ps tgt = some r) : toK ps tgt (ps.length + 1) = r := by
  obtain ⟨h1, h2⟩ := findB_ok h
  have : ∀ j, r < j → j ≤ ps.length + 1 → toK ps tgt j = r := by
    intro j
    induction j with
    | zero => intro h; omega
    | succ j ih =>
      intro hj hl
      rw [toK]
      by_cases e : j = r
      · subst e; rw [if_pos h2]
      · rw [if_neg (fun e2 => e (bpos_inj hp (by omega) h1 (by omega))), ih (by omega) (by omega)]
  exact this _ (by omega) (Nat.le_refl _)
def psAt (ps : List (IN × Nat)) (i : Nat) : IN × Nat := ps.getD i (⟨38, 0⟩, 0)
theorem psAt_get {ps : List (IN × Nat)} {i : Nat} (h : i < ps.length) : psAt ps i = ps[i] := by unfold psAt; simp [h]
def toP (ps : List (IN × Nat)) (i : Nat) : Int := toK ps (tgD ps i (psAt ps i)) (ps.length + 1)
def resF (ps : List (IN × Nat)) (i : Nat) : IN := if isJ (psAt ps i).1 = true then ⟨(psAt ps i).1.op, toP ps i⟩ else (psAt ps i).1
def mixR (ps : List (IN × Nat)) (k : Nat) : List IN := (List.range ps.length).map fun i => if i < k then resF ps i else (psAt ps i).1
theorem mixR_len (ps : List (IN × Nat)) (k : Nat) : (mixR ps k).length = ps.length := by simp [mixR]
theorem mixR_at {ps : List (IN × Nat)} {k i : Nat} (h : i < ps.length) : (mixR ps k)[i]? = some (if i < k then resF ps i else (psAt ps i).1) := by
  unfold mixR; rw [List.getElem?_map, List.getElem?_range h]; rfl
theorem mixR_zero (ps : List (IN × Nat)) : mixR ps 0 = ps.map (·.1) := by
  refine List.ext_getElem? fun i => ?_
  by_cases h : i < ps.length
  · rw [mixR_at h, if_neg (by omega), List.getElem?_map, List.getElem?_eq_getElem h, psAt_get h]; rfl
  · rw [List.getElem?_eq_none (by rw [mixR_len]; omega), List.getElem?_eq_none (by simp; omega)]
theorem mixR_set {ps : List (IN × Nat)} {k : Nat} (h : k < ps.length) : (mixR ps k).set k (resF ps k) = mixR ps (k + 1) := by
  refine List.ext_getElem? fun i => ?_
  by_cases hi : i < ps.length
  · rw [List.getElem?_set, mixR_at hi, mixR_at hi]
    by_cases e : k = i
    · subst e; simp [mixR_len, h]
    · rw [if_neg e]
      by_cases h2 : i < k
      · rw [if_pos h2, if_pos (by omega)]
      · rw [if_neg h2, if_neg (by omega)]
  · rw [List.getElem?_eq_none (by rw [List.length_set, mixR_len]; omega), List.getElem?_eq_none (by rw [mixR_len]; omega)]
theorem mixR_skip {ps : List (IN × Nat)} {k : Nat} (h : k < ps.length) (hj : isJ (psAt ps k).1 = false) : mixR ps (k + 1) = mixR ps k := by
  rw [← mixR_set h]
  refine List.ext_getElem? fun i => ?_
  rw [List.getElem?_set]
  by_cases e : k = i
  · subst e
    rw [if_pos rfl, if_pos (by rw [mixR_len]; exact h), mixR_at h, if_neg (by omega)]
    unfold resF
    rw [if_neg (by simp [hj])]
  · rw [if_neg e]
def resMap (ps : List (IN × Nat)) : List (IN × Nat) → Nat → List IN
  | [], _ => []
  | p :: t, j => (if isJ p.1 = true then ⟨p.1.op, toK ps (tgD ps j p) (ps.length + 1)⟩ else p.1) :: resMap ps t (j + 1)
theorem resMap_len (ps : List (IN × Nat)) : ∀ (t : List (IN × Nat)) (j : Nat), (resMap ps t j).length = t.length
  | [], _ => rfl
  | p :: t, j => by rw [resMap, List.length_cons, resMap_len ps t, List.length_cons]
theorem resMap_at (ps : List (IN × Nat)) : ∀ (t : List (IN × Nat)) (j i : Nat) (h : i < t.length), (resMap ps t j)[i]? = some (if isJ t[i].1 = true then ⟨t[i].1.op, toK ps (tgD ps (j + i) t[i]) (ps.length + 1)⟩ else t[i].1)
  | [], _, _, h => by simp at h
  | p :: t, j, 0, h => by simp [resMap]
  | p :: t, j, i + 1, h => by
    simp only [resMap, List.getElem?_cons_succ, List.getElem_cons_succ]
    rw [resMap_at ps t (j + 1) i (by simpa using h), show j + 1 + i = j + (i + 1) by omega]
theorem resMap_mix (ps : List (IN × Nat)) : resMap ps ps 0 = mixR ps ps.length := by
  refine List.ext_getElem? fun i => ?_
  by_cases h : i < ps.length
  · rw [resMap_at ps ps 0 i h, mixR_at h, if_pos h, Nat.zero_add]
    unfold resF toP
    rw [psAt_get h]
  · rw [List.getElem?_eq_none (by rw [resMap_len]; omega), List.getElem?_eq_none (by rw [mixR_len]; omega)]
theorem resD_map {ps : List (IN × Nat)} (hp : ∀ p ∈ ps, 1 ≤ p.2) : ∀ (t : List (IN × Nat)) (j : Nat), (∀ i (h : i < t.length), isJ t[i].1 = true → 0 ≤ toK ps (tgD ps (j + i) t[i]) (ps.length + 1)) → resD ps t j = some (resMap ps t j)
  | [], j, _ => rfl
  | p :: t, j, h => by
    have ih := resD_map hp t (j + 1) (fun i hi hj => by
      have := h (i + 1) (by simpa using hi) hj
      rw [show j + (i + 1) = j + 1 + i by omega] at this
      exact this)
    rw [resD, ih, resMap]
    by_cases hj : isJ p.1 = true
    · have h0 := h 0 (by simp) hj
      rw [if_pos hj, if_pos hj]
      have e : findB ps ((bpos ps (j + 1) : Int) + p.1.arg) = findB ps (tgD ps (j + 0) p) := rfl
      rw [e]
      simp only [List.getElem_cons_zero] at h0
      cases hf : findB ps (tgD ps (j + 0) p) with
      | none => rw [toK_none hf] at h0; omega
      | some q =>
        have := toK_some hp hf
        rw [show tgD ps j p = tgD ps (j + 0) p from rfl, this]; rfl
    · rw [if_neg hj, if_neg hj]
theorem resD_mix {ps : List (IN × Nat)} (hp : ∀ p ∈ ps, 1 ≤ p.2) (h : ∀ i, i < ps.length → isJ (psAt ps i).1 = true → 0 ≤ toP ps i) : resD ps ps 0 = some (mixR ps ps.length) := by
  rw [← resMap_mix]
  exact resD_map hp ps 0 (fun i hi hj => by
    have := h i hi (by rw [psAt_get hi]; exact hj)
    unfold toP at this
    rw [psAt_get hi] at this
    rw [Nat.zero_add]; exact this)
/-- How many jumps lead to a place. -/
def cntK (ps : List (IN × Nat)) (k : Nat) (r : Nat) : Int := (((List.range k).filter fun i => isJ (psAt ps i).1 && toP ps i == (r : Int)).length : Nat)
theorem cntK_no {ps : List (IN × Nat)} {k : Nat} (hj : isJ (psAt ps k).1 = false) (r : Nat) : cntK ps (k + 1) r = cntK ps k r := by
  unfold cntK; rw [List.range_succ, List.filter_append]; simp [hj]
theorem cntK_yes {ps : List (IN × Nat)} {k to : Nat} (hj : isJ (psAt ps k).1 = true) (ht : toP ps k = (to : Int)) (r : Nat) : cntK ps (k + 1) r = if r = to then cntK ps k to + 1 else cntK ps k r := by
  unfold cntK; rw [List.range_succ, List.filter_append]
  by_cases e : r = to
  · subst e; simp [hj, ht]
  · rw [if_neg e]
    have : ((to : Int) == (r : Int)) = false := by simp; omega
    simp [hj, ht, this]
theorem cntK_bd (ps : List (IN × Nat)) (k r : Nat) : 0 ≤ cntK ps k r ∧ cntK ps k r ≤ k := by
  unfold cntK
  have := List.length_filter_le (fun i => isJ (psAt ps i).1 && toP ps i == (r : Int)) (List.range k)
  rw [List.length_range] at this
  omega
theorem cnt_ask (ps : List (IN × Nat)) (r : Nat) : (0 < cntK ps ps.length r) ↔ askI (mixR ps ps.length) r = true := by
  unfold cntK askI
  rw [List.any_eq_true]
  constructor
  · intro h
    have h1 : 0 < ((List.range ps.length).filter fun i => isJ (psAt ps i).1 && toP ps i == (r : Int)).length := by omega
    obtain ⟨i, hi⟩ := List.exists_mem_of_length_pos h1
    rw [List.mem_filter] at hi
    obtain ⟨h2, h3⟩ := hi
    have h4 := List.mem_range.1 h2
    simp only [Bool.and_eq_true, beq_iff_eq] at h3
    refine ⟨resF ps i, ?_, ?_⟩
    · have := mixR_at (k := ps.length) h4
      rw [if_pos h4] at this
      exact List.mem_of_getElem? this
    · unfold resF
      rw [if_pos h3.1]
      simp only [Bool.and_eq_true, beq_iff_eq]
      exact ⟨h3.1, h3.2⟩
  · rintro ⟨x, hx, hh⟩
    obtain ⟨i, hi, rfl⟩ := List.getElem_of_mem hx
    rw [mixR_len] at hi
    have h5 := mixR_at (k := ps.length) hi
    rw [if_pos hi, List.getElem?_eq_getElem (by rw [mixR_len]; exact hi)] at h5
    rw [Option.some.inj h5] at hh
    have hj : isJ (psAt ps i).1 = true ∧ toP ps i = (r : Int) := by
      unfold resF at hh
      by_cases hj : isJ (psAt ps i).1 = true
      · rw [if_pos hj] at hh
        simp only [Bool.and_eq_true, beq_iff_eq] at hh
        exact ⟨hj, hh.2⟩
      · rw [if_neg hj] at hh
        simp only [Bool.and_eq_true] at hh
        exact absurd hh.1 hj
    have : i ∈ (List.range ps.length).filter fun i => isJ (psAt ps i).1 && toP ps i == (r : Int) := by
      rw [List.mem_filter]
      exact ⟨List.mem_range.2 hi, by simp [hj.1, hj.2]⟩
    have := List.length_pos_of_mem this
    omega
end Go.Proofs.YtbcpopakdlplgaaDoor
