/- Slices with their capacity; a slice of texts that came in; the rest of a slice. -/
import Derived.Test.YtfnadieccdgnnaaDoorBytes
import Derived.Test.YtfnadieccdgnnaaDoorViews
import Derived.Test.YtfnadieccdgnnaaDoorAppend
namespace Go.Proofs.YtfnadieccdgnnaaDoor
open Go.RowKit Go.PlainAid
set_option linter.unusedVariables false
set_option linter.unusedSimpArgs false

/-- The slice value v reads as the values xs, each one cell; its capacity is no less. -/
def SLC (w : World) (v : Value) (xs : List Value) : Prop := SL w v xs ∧ ∃ a c, v = .slice a xs.length c ∧ xs.length ≤ c
theorem SLC.below {w w' : World} {v : Value} {xs : List Value} (h : SLC w v xs) (hb : Below w.heap.size w w') : SLC w' v xs := ⟨h.1.below hb, h.2⟩
theorem SLC.own {w : World} {base : Nat} {e : TypeId} {v : Value} {n : Nat} {xs : List Value} (h : w.ownsRow base e 1 v n xs) (hm : n ≤ maxLen) : SLC w v xs := by
  have hl : xs.length = n := by have := h.1; omega
  refine ⟨SL.own h hm, ?_⟩
  rcases h.2 with ⟨rfl, rfl⟩ | ⟨g, cap, cur, rfl, hbg, hg, hnc, hcm, hcs, htake⟩
  · have h0 : xs = [] := List.length_eq_zero_iff.1 hl
    subst h0
    exact ⟨none, 0, rfl, by simp⟩
  · exact ⟨_, cap, by rw [hl], by omega⟩
/-- The slice's shape, empty or not. -/
theorem SLC.shape {w : World} {v : Value} {xs : List Value} (h : SLC w v xs) (hn : xs ≠ []) : ∃ b off c, v = .slice (some ⟨b, off, none⟩) xs.length c ∧ xs.length ≤ c ∧ b < w.heap.size ∧ ∀ i (h : i < xs.length), w.cell? ⟨b, off + i, none⟩ = some xs[i] := by
  obtain ⟨h1, a, c, rfl, hc⟩ := h
  rcases h1.2 with ⟨h0, _⟩ | ⟨b, off, c', e, hlt, hcl⟩
  · exact absurd h0 hn
  · cases e
    exact ⟨b, off, c, rfl, hc, hlt, hcl⟩
theorem SL.take {w : World} {b off c len : Nat} {xs : List Value} (hm : len ≤ maxLen) (hl : xs.length = len) (hlt : b < w.heap.size) (hcl : ∀ i (h : i < xs.length), w.cell? ⟨b, off + i, none⟩ = some xs[i]) (q : Nat) (hq : q ≤ len) :
    SL w (.slice (some ⟨b, off, none⟩) q c) (xs.take q) := by
  have hlen : (xs.take q).length = q := by simp; omega
  refine ⟨by omega, .inr ⟨b, off, c, by rw [hlen], hlt, fun i hi => ?_⟩⟩
  rw [hcl i (by omega)]; simp
/-- The rest behind q elements, where the slice goes on. -/
theorem SLC.drop {w : World} {b off c len : Nat} {xs : List Value} (hm : len ≤ maxLen) (hl : xs.length = len) (hc : len ≤ c) (hlt : b < w.heap.size) (hcl : ∀ i (h : i < xs.length), w.cell? ⟨b, off + i, none⟩ = some xs[i]) (q : Nat) (hq : q ≤ len) (hqc : q < c) :
    SLC w (.slice (some ⟨b, off + q, none⟩) (len - q) (c - q)) (xs.drop q) := by
  have hlen : (xs.drop q).length = len - q := by simp; omega
  refine ⟨⟨by omega, .inr ⟨b, off + q, c - q, by rw [hlen], hlt, fun i hi => ?_⟩⟩, _, _, by rw [hlen], by omega⟩
  rw [Nat.add_assoc, hcl (q + i) (by omega)]; simp
theorem SLC.none {w : World} {xs : List Value} {ad : Addr} (c q len : Nat) (hl : xs.length = len) (hq : q = len) : SLC w (.slice (some ad) (len - q) c) (xs.drop q) := by
  have e : xs.drop q = [] := List.drop_eq_nil_of_le (by omega)
  rw [e, show len - q = 0 by omega]
  exact ⟨SL.nil _ _ _, _, _, rfl, Nat.zero_le _⟩

/-- Lists of texts. -/
def LLB (w : World) (v : Value) (ls : List (List (List UInt8))) : Prop :=
  ∃ vs, SL w v vs ∧ vs.length = ls.length ∧ ∀ i (h : i < vs.length) (h' : i < ls.length), SL w vs[i] (ls[i].map strV)
theorem LLB.below {w w' : World} {v : Value} {ls : List (List (List UInt8))} (h : LLB w v ls) (hb : Below w.heap.size w w') : LLB w' v ls := by
  obtain ⟨vs, h1, h2, h3⟩ := h
  exact ⟨vs, h1.below hb, h2, fun i a b => (h3 i a b).below hb⟩
theorem LLB.len {w : World} {v : Value} {ls : List (List (List UInt8))} (h : LLB w v ls) : ∃ a c, v = .slice a ls.length c := by
  obtain ⟨vs, h1, h2, _⟩ := h
  rw [← h2]; exact h1.len
theorem SL.oneC {w : World} {v : Value} {xs : List Value} (h : SL w v xs) : v.oneCell' = true := by
  obtain ⟨a, c, rfl⟩ := h.len; rfl

variable {H : Type} {enc : TypeId × Value → H} {P : Program} {w : World} {base : Nat} {held : Bool}
theorem view_stringsC {t e : TypeId} {a : Option Addr} {len cap : Nat} {d : DataW H} {p : List MemPlace} (ht : P.underlying t = some (.slice e)) (he : P.underlying e = some .string) (hc : P.cellsOf e = 1)
    (h : DataW.Trod enc P w base (fun _ => true) held t (.slice a len cap) d p) : ∃ l : List (List UInt8), SLC w (.slice a len cap) (l.map strV) ∧ ∀ x ∈ l, x.length ≤ maxLen := by
  obtain ⟨l, h1, h2⟩ := view_strings ht he hc h
  obtain ⟨fuel, hf⟩ := h
  have hcap : len ≤ cap := by
    rcases ChangeShapes.open_strings ht he hc hf with ⟨hcs, _⟩ | ⟨x, l, c, ss, hcs, _, hl, hm, hz, _, hcell, hws⟩
    · simp [Value.cells] at hcs; omega
    · simp [Value.cells] at hcs; omega
  obtain ⟨a', c', e'⟩ := h1.len
  refine ⟨l.map fun s => s.data.toList, ⟨?_, ?_⟩, ?_⟩
  · rw [List.map_map]; exact h1
  · refine ⟨a, cap, ?_, ?_⟩
    · have := e'; simp at this ⊢; exact this.2.1
    · have := e'; simp at this ⊢; omega
  · intro x hx
    obtain ⟨s, hs, rfl⟩ := List.mem_map.1 hx
    have := h2 s hs
    rw [by_len]; exact this
end Go.Proofs.YtfnadieccdgnnaaDoor
