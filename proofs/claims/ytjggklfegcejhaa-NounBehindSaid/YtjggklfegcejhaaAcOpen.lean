/- Verbs and lines: where they lie. -/
import Derived.Test.YtjggklfegcejhaaTab
namespace Go.Proofs.Ytjggklfegcejhaa
open Go.RowKit Go.PlainAid
set_option linter.unusedVariables false
set_option linter.unusedSimpArgs false

/-- Acts: where they lie. -/
theorem ac_open {w : World} {v : Value} {l : List AcC} (h : Reads Cd.ac.sq w v l) (hn : 0 < l.length) :
    ∃ b off cap, v = .slice (some ⟨b, off, none⟩) l.length cap ∧ l.length ≤ cap ∧ b < w.heap.size ∧ ∀ i (hi : i < l.length), ∃ u, Reads Cd.sl.sq.sq w u l[i].ln ∧ w.cell? ⟨b, off + i * 2, none⟩ = some (.bool l[i].me) ∧ w.cell? ⟨b, off + i * 2 + 1, none⟩ = some u := by
  obtain ⟨b, off, cap, h1, h2, h3, h4⟩ := h.q.open hn
  refine ⟨b, off, cap, h1, h2, h3, fun i hi => ?_⟩
  obtain ⟨row, r1, ⟨u, r2, r4⟩, r3⟩ := h4 i hi
  subst r2
  exact ⟨u, r4, r3 0 (by decide), r3 1 (by decide)⟩
/-- Lines: where they lie. -/
theorem ln_open {w : World} {v : Value} {l : List (List SlC)} (h : Reads Cd.sl.sq.sq w v l) (hn : 0 < l.length) :
    ∃ b off cap, v = .slice (some ⟨b, off, none⟩) l.length cap ∧ l.length ≤ cap ∧ b < w.heap.size ∧ ∀ i (hi : i < l.length), ∃ u, Reads Cd.sl.sq w u l[i] ∧ w.cell? ⟨b, off + i, none⟩ = some u := by
  obtain ⟨b, off, cap, h1, h2, h3, h4⟩ := h.q.open hn
  refine ⟨b, off, cap, h1, h2, h3, fun i hi => ?_⟩
  obtain ⟨row, r1, r2, r3⟩ := h4 i hi
  obtain ⟨u, rows, e, hu⟩ := r2.1
  subst e
  have := r3 0 (by decide)
  have e1 : Cd.sl.sq.k = 1 := rfl
  rw [e1, Nat.mul_one, Nat.add_zero] at this
  exact ⟨u, r2, this⟩
end Go.Proofs.Ytjggklfegcejhaa
