/- What came in has a bounded size: the form's own reach, read off an argument's parts. -/
import Derived.Test.YtdommneciojiaaaCode
import Derived.SizedLaws
namespace Go.Proofs.Ytdommneciojiaaa
open Go.RowKit Go.PlainAid Go.ChangeShapes Go.WideShapes Go.Deep
set_option linter.unusedVariables false
set_option linter.unusedSimpArgs false

/-- All parts of a datum are within the reach. -/
def Near {H : Type} (P : Program) (t : TypeId) (d : DataW H) : Prop := ∀ n ∈ d.weights P t, n ≤ reachBytes
theorem near_arg {H : Type} {P : Program} {ts : List TypeId} {ds : List (DataW H)} (h : (DataW.weightsEach P ts ds).all (· ≤ reachBytes) = true) {j : Nat} {t : TypeId} {d : DataW H} (ht : ts[j]? = some t) (hd : ds[j]? = some d) : Near P t d :=
  fun n hn => by simpa using List.all_eq_true.1 h n (DataW.weights_mem_each ht hd n hn)
theorem near_slice {P : Program} {t e : TypeId} {α : Type} {c : Cd α} {H : Type} {enc : TypeId × Value → H} {w w2 : World} {base : Nat} {spare : Nat → Bool} {held : Bool} {fuel : Nat} {v : Value} {xs : List α} {d : DataW H × List MemPlace}
    (ht : P.underlying t = some (.slice e)) (hr : Reads c.seq w2 v xs) (h : DataW.trod enc P w base spare held fuel t [v] = some d) (hs : Near P t d.1) : xs.length * P.bytesOf e ≤ reachBytes := by
  obtain ⟨a, cap, hv, _, _⟩ := hr.len
  rcases DataW.trod_slice ht h with ⟨h1, h2⟩ | ⟨a', len, cap', elems, rest, n, _, h1, h2, _, _, _, hel, _⟩
  · rw [hv] at h1
    have : xs.length = 0 := by simp at h1; simp [h1.2.1]
    rw [this, Nat.zero_mul]; exact Nat.zero_le _
  · rw [hv] at h1
    have e1 : xs.length = len := by simp at h1; exact h1.2.1
    have h3 := hs ((elems.length + rest.length) * P.bytesOf e) (by rw [h2]; simp [DataW.weights, ht])
    refine Nat.le_trans (Nat.mul_le_mul_right _ ?_) h3
    omega
/-- The fields of a struct whose fields have one cell each, and their reach. -/
theorem near_fields {P : Program} {t : TypeId} {fs : Array Field} {H : Type} {enc : TypeId × Value → H} {w : World} {base : Nat} {spare : Nat → Bool} {held : Bool} {fuel : Nat} {cs : List Value} {d : DataW H × List MemPlace}
    (ht : P.underlying t = some (.struct fs)) (hone : oneCellFields P fs = true) (hC : P.cellsOf t = fs.size) (h : DataW.trod enc P w base spare held fuel t cs = some d) (hs : Near P t d.1) :
    cs.length = fs.size ∧ ∀ (i : Nat) (f : Field), fs[i]? = some f → ∀ (hi : i < cs.length), ∃ n y, DataW.trod enc P w base spare held n f.type [cs[i]] = some y ∧ Near P f.type y.1 := by
  obtain ⟨xs, n, _, hd, hlen, hxl, hf⟩ := DataW.trod_struct ht h
  refine ⟨by omega, fun i f hi hil => ?_⟩
  obtain ⟨ho, hk⟩ := hone_of hone i f hi
  have h1 := hf i f hi
  rw [ho, hk] at h1
  have hd1 : (cs.drop i).take 1 = [cs[i]] := by rw [List.drop_eq_getElem_cons hil]; rfl
  rw [hd1] at h1
  have hxi : i < xs.length := by have := (Array.getElem?_eq_some_iff.1 hi).1; omega
  rw [List.getElem?_eq_getElem hxi] at h1
  refine ⟨n, _, h1, fun m hm => hs m ?_⟩
  rw [hd]
  simp only [DataW.weights, ht]
  refine DataW.weights_mem_each (j := i) (t := f.type) (d := xs[i].1) ?_ ?_ m hm
  · simp [hi]
  · simp [hxi]
/-- A field that is a slice: its list, and the list's reach. -/
theorem near_one {P : Program} {α : Type} {c : Cd α} {fs : Array Field} {H : Type} {enc : TypeId × Value → H} {w : World} {base : Nat} {spare : Nat → Bool} {held : Bool} {cs : List Value} (i : Nat) (f : Field) {e : TypeId}
    (h : ∀ (i : Nat) (f : Field), fs[i]? = some f → ∀ (hi : i < cs.length), ∃ n y, DataW.trod enc P w base spare held n f.type [cs[i]] = some y ∧ Near P f.type y.1) (hf : fs[i]? = some f) (hi : i < cs.length) (ht : P.underlying f.type = some (.slice e)) (hc : Opens P f.type c.seq) :
    ∃ xs, Reads c.seq w cs[i] xs ∧ xs.length * P.bytesOf e ≤ reachBytes := by
  obtain ⟨n, y, hy, hn⟩ := h i f hf hi
  obtain ⟨xs, hx⟩ := hc enc w base spare held n _ _ hy
  exact ⟨xs, hx, near_slice ht hx hy hn⟩
end Go.Proofs.Ytdommneciojiaaa
