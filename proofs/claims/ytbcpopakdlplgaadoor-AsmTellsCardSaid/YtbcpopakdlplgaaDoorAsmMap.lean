/- Maps keyed by whole numbers that the call has made: which labels are asked for (bool), which number a label has (int). -/
import Derived.Test.YtbcpopakdlplgaaDoorMem
import Derived.Test.YtbcpopakdlplgaaDoorAsmPlain
import Derived.Maps.Own
import Derived.Maps.OwnSet
import Derived.Maps.Views
namespace Go.Proofs.YtbcpopakdlplgaaDoor
open Go.RowKit Go.PlainAid Go.Maps
set_option linter.unusedVariables false
set_option linter.unusedSimpArgs false

/-- A number that a word of the machine holds. -/
def Wf (a : Int) : Prop := -9223372036854775808 ≤ a ∧ a ≤ 9223372036854775807
theorem wf_lit {a : Int} (h : Wf a) : (Lit.int .i64 a).wf = true := WalkArith.wf_i64 h
theorem intKeyed : Keyed Tryd.prog 3 := int_keyed Tryd.underlying3
theorem key_int {a : Int} (h : Wf a) : keyOf Tryd.prog 3 (.int .i64 a) = some (.int .i64 a) := keyOf_int_mk Tryd.underlying3 (wf_lit h)
theorem zeroBool (w : World) : (zeroValue 4).run Tryd.prog w = .ok (.bool false) w := by kernel_rfl
theorem zeroInt (w : World) : (zeroValue 3).run Tryd.prog w = .ok (.int .i64 0) w := by kernel_rfl
theorem boolInv {P : Program} {e : TypeId} {v : Value} {x : Bool} {ps : List MemPlace} (he : P.underlying e = some .bool) (h : plainElem (H := Unit) P e v = some (.lit (.bool x), ps)) : v = .bool x := by
  unfold plainElem at h
  rw [he] at h
  cases v <;> simp at h
  rw [h.1]

/-- Block b is a map that holds f a at a. -/
def MetB (w : World) (b n : Nat) (f : Int → Bool) : Prop := ∃ D : DataW Unit, w.ownsMap Tryd.prog 3 (plainElem Tryd.prog 4) b n D ∧ IsMap D ∧ ∀ a, Wf a → D.atKey (.int .i64 a) (.lit (.bool false)) = .lit (.bool (f a))
theorem MetB.new (w : World) : MetB (w.alloc (.map #[] 0)) w.heap.size 0 (fun _ => false) := ⟨.map [], World.ownsMap_made _ _ _ _, ⟨[], rfl⟩, fun s _ => rfl⟩
theorem MetB.kept {w w' : World} {b n : Nat} {f : Int → Bool} {row : Option Nat} (h : MetB w b n f) (hg : w.grownBy w' row) (hne : row ≠ some b) : MetB w' b n f := by
  obtain ⟨D, h1, h2, h3⟩ := h
  exact ⟨D, h1.kept hg (Ne.symm hne), h2, h3⟩
theorem MetB.below {w w' : World} {b n : Nat} {f : Int → Bool} (h : MetB w b n f) (hb : Below w.heap.size w w') : MetB w' b n f := h.kept (row := none) (gr_below hb) (by simp)
theorem MetB.to {w : World} {b n : Nat} {f g : Int → Bool} (h : MetB w b n f) (e : ∀ a, Wf a → f a = g a) : MetB w b n g := by
  obtain ⟨D, h1, h2, h3⟩ := h
  exact ⟨D, h1, h2, fun a ha => by rw [h3 a ha, e a ha]⟩
theorem MetB.lt {w : World} {b n : Nat} {f : Int → Bool} (h : MetB w b n f) : b < w.heap.size := by
  obtain ⟨D, h1, _⟩ := h; exact h1.lt
theorem MetB.update {w : World} {b n : Nat} {f : Int → Bool} (h : MetB w b n f) (hn : n < maxLen) {a : Int} (ha : Wf a) (v : Bool) :
    ∃ w', (Instr.mapUpdate 42 (.map (some b)) (.int .i64 a) (.bool v)).run Tryd.prog w = .ok () w' ∧ MetB w' b (n + 1) (fun x => if x = a then v else f x) ∧ w.grownBy w' (some b) := by
  obtain ⟨D, h1, h2, h3⟩ := h
  obtain ⟨w', hrun, hown, hg⟩ := h1.update intKeyed Tryd.underlying42 hn (key_int ha) (plainElem_bool Tryd.underlying4 v)
  refine ⟨w', hrun, ⟨_, hown, h2.put _ _, fun x hx => ?_⟩, hg⟩
  by_cases e : x = a
  · subst e
    rw [atKey_put_same h2 (show WideAt.IsKeyLit (.int .i64 x) from trivial)]; simp
  · rw [atKey_put_other (fun h => e (by injection h)), h3 x hx]; simp [e]
theorem MetB.look {w : World} {b n : Nat} {f : Int → Bool} (h : MetB w b n f) {a : Int} (ha : Wf a) : (Instr.lookup 42 (.map (some b)) (.int .i64 a) false).run Tryd.prog w = .ok (.bool (f a)) w := by
  obtain ⟨D, h1, h2, h3⟩ := h
  obtain ⟨v, ps, hr, hv⟩ := h1.lookup intKeyed Tryd.underlying42 (zeroBool w) (plainElem_bool Tryd.underlying4 false) (key_int ha)
  rw [h3 a ha] at hv
  rw [hr, boolInv Tryd.underlying4 hv]

/-- Block b is a map to which these pairs have been put, in order. -/
def NumIs (w : World) (b n : Nat) (ps : List (Int × Int)) : Prop := ∃ D : DataW Unit, w.ownsMap Tryd.prog 3 (plainElem Tryd.prog 3) b n D ∧ Tidy D ∧ (∀ a, Wf a → Maps.has D (.int .i64 a) = decide (a ∈ ps.map (·.1))) ∧
  (∀ a, Wf a → D.atKey (.int .i64 a) (.lit (.int .i64 0)) = .lit (.int .i64 (lastN ps a 0))) ∧ ((ps.map (·.1)).Nodup → Maps.size D = ps.length)
theorem NumIs.new (w : World) : NumIs (w.alloc (.map #[] 0)) w.heap.size 0 [] := ⟨.map [], World.ownsMap_made _ _ _ _, tidy_empty, fun a _ => rfl, fun a _ => rfl, fun _ => rfl⟩
theorem NumIs.kept {w w' : World} {b n : Nat} {ps : List (Int × Int)} {row : Option Nat} (h : NumIs w b n ps) (hg : w.grownBy w' row) (hne : row ≠ some b) : NumIs w' b n ps := by
  obtain ⟨D, h1, h2⟩ := h
  exact ⟨D, h1.kept hg (Ne.symm hne), h2⟩
theorem NumIs.below {w w' : World} {b n : Nat} {ps : List (Int × Int)} (h : NumIs w b n ps) (hb : Below w.heap.size w w') : NumIs w' b n ps := h.kept (row := none) (gr_below hb) (by simp)
theorem NumIs.lt {w : World} {b n : Nat} {ps : List (Int × Int)} (h : NumIs w b n ps) : b < w.heap.size := by
  obtain ⟨D, h1, _⟩ := h; exact h1.lt
theorem NumIs.update {w : World} {b n : Nat} {ps : List (Int × Int)} (h : NumIs w b n ps) (hn : n < maxLen) {a v : Int} (ha : Wf a) (hv : Wf v) :
    ∃ w', (Instr.mapUpdate 44 (.map (some b)) (.int .i64 a) (.int .i64 v)).run Tryd.prog w = .ok () w' ∧ NumIs w' b (n + 1) (ps ++ [(a, v)]) ∧ w.grownBy w' (some b) := by
  obtain ⟨D, h1, h2, h3, h4, h5⟩ := h
  obtain ⟨w', hrun, hown, hg⟩ := h1.update intKeyed Tryd.underlying44 hn (key_int ha) (plainElem_int Tryd.underlying3 (wf_lit hv))
  have hk : WideAt.IsKeyLit (.int .i64 a) := trivial
  refine ⟨w', hrun, ⟨_, hown, h2.put hk _, fun x hx => ?_, fun x hx => ?_, fun hd => ?_⟩, hg⟩
  · by_cases e : x = a
    · subst e
      rw [has_put_same h2.isMap hk]; simp
    · rw [has_put_other (fun h => e (by injection h)), h3 x hx]; simp [e]
  · rw [lastN_app]
    by_cases e : x = a
    · subst e
      rw [atKey_put_same h2.isMap hk]; simp [lastN]
    · rw [atKey_put_other (fun h => e (by injection h)), h4 x hx]; simp [lastN, Ne.symm e]
  · rw [List.map_append, List.nodup_append] at hd
    have h6 : Maps.has D (.int .i64 a) = false := by
      rw [h3 a ha]; simp only [decide_eq_false_iff_not]
      intro hm
      exact hd.2.2 a hm a (by simp) rfl
    rw [size_put h2, h6, if_neg (by simp), h5 hd.1]; simp
theorem NumIs.look {w : World} {b n : Nat} {ps : List (Int × Int)} (h : NumIs w b n ps) {a : Int} (ha : Wf a) : (Instr.lookup 44 (.map (some b)) (.int .i64 a) false).run Tryd.prog w = .ok (.int .i64 (lastN ps a 0)) w := by
  obtain ⟨D, h1, h2, h3, h4, h5⟩ := h
  obtain ⟨c, hr, hv, _⟩ := h1.lookup_int intKeyed Tryd.underlying44 Tryd.underlying3 (zeroInt w) (key_int ha)
  rw [h4 a ha] at hv
  rw [hr]
  simp only [DataW.lit.injEq, Lit.int.injEq, true_and] at hv
  rw [hv]
theorem NumIs.len {w : World} {b n : Nat} {ps : List (Int × Int)} (h : NumIs w b n ps) (hd : (ps.map (·.1)).Nodup) (ty : TypeId) : (Builtin.len_ #[44] ty #[.map (some b)]).run Tryd.prog w = .ok (.int .i64 ps.length) w := by
  obtain ⟨D, h1, h2, h3, h4, h5⟩ := h
  rw [h1.len Tryd.underlying44 ty, h5 hd]
end Go.Proofs.YtbcpopakdlplgaaDoor
