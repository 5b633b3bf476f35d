/- What a walk is told of arguments that came in: a slice of strings reads as a list of texts. -/
import Derived.Test.YtfnadieccdgnnaaDoorBase
import Derived.ProofKit
import Derived.SliceStrings
import Derived.Lib.SmallJoins
namespace Go.Proofs.YtfnadieccdgnnaaDoor
open Go.RowKit Go.PlainAid

theorem addr_add (b off : Nat) (i : Nat) : (⟨b, off, none⟩ : Addr).add i = ⟨b, off + i, none⟩ := by unfold Addr.add; split <;> simp_all
theorem view_cells {w : World} {x : Addr} {len cap : Nat} {ss : List ByteArray} (hl : len ≤ ss.length) (hm : ss.length ≤ maxLen) (hc : ∀ i, i < ss.length → w.cell? (x.add i) = some (.string (ss.getD i ByteArray.empty))) :
    SL w (.slice (some x) len cap) ((ss.take len).map Value.string) := by
  by_cases h0 : len = 0
  · subst h0; exact SL.nil _ _ _
  · obtain ⟨b, off, spot⟩ := x
    have hs : spot = none := by
      have := hc 0 (by omega)
      simpa [Addr.add] using World.cell?_spot this
    subst hs
    have hlen : ((ss.take len).map Value.string).length = len := by simp; omega
    refine ⟨by rw [hlen]; omega, .inr ⟨b, off, cap, by rw [hlen], ?_, fun i hi => ?_⟩⟩
    · have := lt_cell (hc 0 (by omega)); rw [addr_add] at this; exact this
    · have hi' : i < len := by rw [hlen] at hi; exact hi
      have := hc i (by omega)
      rw [addr_add] at this
      rw [this]
      have hlt : i < ss.length := by omega
      simp [List.getD, hlt]

variable {H : Type} {enc : TypeId × Value → H} {P : Program} {w : World} {base : Nat} {held : Bool}
theorem view_strings {t e : TypeId} {a : Option Addr} {len cap : Nat} {d : DataW H} {p : List MemPlace} (ht : P.underlying t = some (.slice e)) (he : P.underlying e = some .string) (hc : P.cellsOf e = 1)
    (h : DataW.Trod enc P w base (fun _ => true) held t (.slice a len cap) d p) : ∃ l : List ByteArray, SL w (.slice a len cap) (l.map Value.string) ∧ ∀ x ∈ l, x.size ≤ maxLen := by
  obtain ⟨fuel, hf⟩ := h
  rcases ChangeShapes.open_strings ht he hc hf with ⟨hcs, _⟩ | ⟨x, l, c, ss, hcs, _, hl, hm, hz, _, hcell, hws⟩
  · simp [Value.cells] at hcs
    obtain ⟨rfl, rfl, rfl⟩ := hcs
    exact ⟨[], SL.nil _ _ _, by simp⟩
  · simp [Value.cells] at hcs
    obtain ⟨rfl, rfl, rfl⟩ := hcs
    have hz' : ss.length = cap := by simpa using hz
    exact ⟨ss.take len, view_cells (by omega) (by omega) hcell, fun x hx => hws x (List.mem_of_mem_take hx)⟩
end Go.Proofs.YtfnadieccdgnnaaDoor
