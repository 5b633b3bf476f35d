/- The map of the names met: what it holds; Make's closure that adds a name; count. -/
import Derived.Test.YtdommneciojiaaaNamesSource
import Derived.Maps.Own
import Derived.Maps.Views
namespace Go.Proofs.Ytdommneciojiaaa
open Go.RowKit Go.PlainAid Go.Maps
set_option linter.unusedVariables false
set_option linter.unusedSimpArgs false

theorem bool_inv {P : Program} {e : TypeId} {v : Value} {x : Bool} {ps : List MemPlace} (he : P.underlying e = some .bool) (h : plainElem (H := Unit) P e v = some (.lit (.bool x), ps)) : v = .bool x := by
  unfold plainElem at h
  rw [he] at h
  cases v <;> simp at h
  rw [h.1]
theorem strKeyed : Keyed Try.prog 9 := string_keyed Try.underlying9
theorem zeroB (w : World) : (zeroValue 4).run Try.prog w = .ok (.bool false) w := by kernel_rfl
theorem strKey (l : List UInt8) (h : l.length ≤ maxLen) : keyOf Try.prog 9 (.string (mkB l)) = some (.string l) := by
  rw [keyOf_string Try.underlying9]
  unfold mapKey
  simp [Try.underlying9, mkB_size, h]
  rfl
/-- Block b is a map that holds true at these names alone. -/
def MetIs (w : World) (b n : Nat) (met : List (List UInt8)) : Prop := ∃ D : DataW Unit, w.ownsMap Try.prog 9 (plainElem Try.prog 4) b n D ∧ IsMap D ∧ ∀ s : List UInt8, D.atKey (.string s) (.lit (.bool false)) = .lit (.bool (decide (s ∈ met)))
theorem MetIs.new (w : World) : MetIs (w.alloc (.map #[] 0)) w.heap.size 0 [] := ⟨.map [], World.ownsMap_made _ _ _ _, ⟨[], rfl⟩, fun s => rfl⟩
theorem MetIs.kept {w w' : World} {b n : Nat} {met : List (List UInt8)} {row : Option Nat} (h : MetIs w b n met) (hg : w.grownBy w' row) (hne : row ≠ some b) : MetIs w' b n met := by
  obtain ⟨D, h1, h2, h3⟩ := h
  exact ⟨D, h1.kept hg (Ne.symm hne), h2, h3⟩
theorem MetIs.put {w' : World} {b n : Nat} {met : List (List UInt8)} {x : List UInt8} {D : DataW Unit} (h : w'.ownsMap Try.prog 9 (plainElem Try.prog 4) b (n + 1) (D.put (.string x) (.lit (.bool true)))) (hm : IsMap D) (ha : ∀ s : List UInt8, D.atKey (.string s) (.lit (.bool false)) = .lit (.bool (decide (s ∈ met)))) : MetIs w' b (n + 1) (met ++ [x]) := by
  refine ⟨_, h, ?_, fun s => ?_⟩
  · obtain ⟨es, rfl⟩ := hm; exact ⟨_, rfl⟩
  · by_cases e : s = x
    · subst e
      rw [atKey_put_same hm (show WideAt.IsKeyLit (.string s) from trivial)]; simp
    · rw [atKey_put_other (fun h => e (by injection h)), ha s]; simp [e]
theorem MetIs.look {w : World} {b n : Nat} {met : List (List UInt8)} (h : MetIs w b n met) (x : List UInt8) (hx : x.length ≤ maxLen) : (Instr.lookup 59 (.map (some b)) (.string (mkB x)) false).run Try.prog w = .ok (.bool (decide (x ∈ met))) w := by
  obtain ⟨D, h1, h2, h3⟩ := h
  obtain ⟨v, ps, hr, hv⟩ := h1.lookup strKeyed Try.underlying59 (zeroB w) (plainElem_bool Try.underlying4 false) (strKey x hx)
  rw [h3 x] at hv
  rw [hr, bool_inv Try.underlying4 hv]
end Go.Proofs.Ytdommneciojiaaa
