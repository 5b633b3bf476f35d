/- What came in has a bounded size: the form's own reach, read off an argument's parts. -/
import Derived.Test.YtjggklfegcejhaaGreatCode
import Derived.SizedLaws
namespace Go.Proofs.YtjggklfegcejhaaGreat
open Go.RowKit Go.PlainAid Go.ChangeShapes Go.WideShapes Go.Deep
set_option linter.unusedVariables false
set_option linter.unusedSimpArgs false

/-- All parts of a datum are within the reach. -/
def Near {H : Type} (P : Program) (t : TypeId) (d : DataW H) : Prop := ∀ n ∈ d.weights P t, n ≤ reachBytes
theorem near_arg {H : Type} {P : Program} {ts : List TypeId} {ds : List (DataW H)} (h : (DataW.weightsEach P ts ds).all (· ≤ reachBytes) = true) {j : Nat} {t : TypeId} {d : DataW H} (ht : ts[j]? = some t) (hd : ds[j]? = some d) : Near P t d :=
  fun n hn => by simpa using List.all_eq_true.1 h n (DataW.weights_mem_each ht hd n hn)
theorem near_slice {P : Program} {t e : TypeId} {α : Type} {c : Cd α} {H : Type} {enc : TypeId × Value → H} {w w2 : World} {base : Nat} {spare : Nat → Bool} {held : Bool} {fuel : Nat} {v : Value} {xs : List α} {d : DataW H × List MemPlace}
    (ht : P.underlying t = some (.slice e)) (hr : Reads c.seq w2 v xs) (h : DataW.trod enc P w base spare held fuel t [v] = some d) (hs : Near P t d.1) : xs.length * P.bytesOf e ≤ reachBytes := by
  obtain ⟨a, cap, hv, _, _⟩ := hr.len
  rcases DataW.trod_slice ht h with ⟨h1, h2⟩ | ⟨a', len, cap', elems, rest, n, _, h1, h2, _, _, _, hel, _⟩
  · rw [hv] at h1
    have : xs.length = 0 := by simp at h1; simp [h1.2.1]
    rw [this, Nat.zero_mul]; exact Nat.zero_le _
  · rw [hv] at h1
    have e1 : xs.length = len := by simp at h1; exact h1.2.1
    have h3 := hs ((elems.length + rest.length) * P.bytesOf e) (by rw [h2]; simp [DataW.weights, ht])
    refine Nat.le_trans (Nat.mul_le_mul_right _ ?_) h3
    omega
/-- The fields of a struct whose fields have one cell each, and their reach. -/
theorem near_fields {P : Program} {t : TypeId} {fs : Array Field} {H : Type} {enc : TypeId × Value → H} {w : World} {base : Nat} {spare : Nat → Bool} {held : Bool} {fuel : Nat} {cs : List Value} {d : DataW H × List MemPlace}
    (ht : P.underlying t = some (.struct fs)) (hone : oneCellFields P fs = true) (hC : P.cellsOf t = fs.size) (h : DataW.trod enc P w base spare held fuel t cs = some d) (hs : Near P t d.1) :
    cs.length = fs.size ∧ ∀ (i : Nat) (f : Field), fs[i]? = some f → ∀ (hi : i < cs.length), ∃ n y, DataW.trod enc P w base spare held n f.type [cs[i]] = some y ∧ Near P f.type y.1 := by
  obtain ⟨xs, n, _, hd, hlen, hxl, hf⟩ := DataW.trod_struct ht h
  refine ⟨by omega, fun i f hi hil => ?_⟩
  obtain ⟨ho, hk⟩ := hone_of hone i f hi
  have h1 := hf i f hi
  rw [ho, hk] at h1
  have hd1 : (cs.drop i).take 1 = [cs[i]] := by rw [List.drop_eq_getElem_cons hil]; rfl
  rw [hd1] at h1
  have hxi : i < xs.length := by have := (Array.getElem?_eq_some_iff.1 hi).1; omega
  rw [List.getElem?_eq_getElem hxi] at h1
  refine ⟨n, _, h1, fun m hm => hs m ?_⟩
  rw [hd]
  simp only [DataW.weights, ht]
  refine DataW.weights_mem_each (j := i) (t := f.type) (d := xs[i].1) ?_ ?_ m hm
  · simp [hi]
  · simp [hxi]
/-- A field that is a slice: its list, and the list's reach. -/
theorem near_one {P : Program} {α : Type} {c : Cd α} {fs : Array Field} {H : Type} {enc : TypeId × Value → H} {w : World} {base : Nat} {spare : Nat → Bool} {held : Bool} {cs : List Value} (i : Nat) (f : Field) {e : TypeId}
    (h : ∀ (i : Nat) (f : Field), fs[i]? = some f → ∀ (hi : i < cs.length), ∃ n y, DataW.trod enc P w base spare held n f.type [cs[i]] = some y ∧ Near P f.type y.1) (hf : fs[i]? = some f) (hi : i < cs.length) (ht : P.underlying f.type = some (.slice e)) (hc : Opens P f.type c.seq) :
    ∃ xs, Reads c.seq w cs[i] xs ∧ xs.length * P.bytesOf e ≤ reachBytes := by
  obtain ⟨n, y, hy, hn⟩ := h i f hf hi
  obtain ⟨xs, hx⟩ := hc enc w base spare held n _ _ hy
  exact ⟨xs, hx, near_slice ht hx hy hn⟩
/-! ### Codes whose lists are bounded -/
theorem near_all {H : Type} {P : Program} {e : TypeId} : ∀ {l : List (DataW H)} {d : DataW H}, d ∈ l → ∀ n ∈ d.weights P e, n ∈ DataW.weightsAll P e l
  | [], d, h, n, hn => by cases h
  | x :: l, d, h, n, hn => by
    unfold DataW.weightsAll
    rcases List.mem_cons.1 h with rfl | h
    · exact List.mem_append_left _ hn
    · exact List.mem_append_right _ (near_all h n hn)
theorem near_elem {H : Type} {P : Program} {t e : TypeId} {l r : List (DataW H)} (ht : P.underlying t = some (.slice e)) (h : Near P t (.slice l r)) {d : DataW H} (hd : d ∈ l) : Near P e d := fun n hn => h n (by
  simp only [DataW.weights, ht]
  exact List.mem_cons_of_mem _ (List.mem_append_left _ (near_all hd n hn)))
/-- Whatever is read at the type t, and is within the reach, reads by the code. -/
def OpensN (P : Program) {α : Type} (t : TypeId) (c : Cd α) : Prop :=
  ∀ {H : Type} (enc : TypeId × Value → H) (w : World) (base : Nat) (spare : Nat → Bool) (held : Bool) (fuel : Nat) (cs : List Value) (d : DataW H × List MemPlace),
    DataW.trod enc P w base spare held fuel t cs = some d → Near P t d.1 → ∃ x, c.rd w cs x
theorem Opens.n {P : Program} {α : Type} {t : TypeId} {c : Cd α} (h : Opens P t c) : OpensN P t c := fun enc w base spare held fuel cs d hd _ => h enc w base spare held fuel cs d hd
/-- A list that is not too long. -/
def Cd.sq {α : Type} (c : Cd α) : Cd (List α) := ⟨1, fun w cs xs => c.seq.rd w cs xs ∧ xs.length ≤ reachBytes, fun h => c.seq.len h.1, fun h hb => ⟨c.seq.below h.1 hb, h.2⟩⟩
theorem opensN_sq {P : Program} {t e : TypeId} {α : Type} {c : Cd α} (ht : P.underlying t = some (.slice e)) (hk : P.cellsOf e = c.k) (h0 : 0 < c.k) (hby : 0 < P.bytesOf e) (he : OpensN P e c) : OpensN P t c.sq := fun enc w base spare held fuel cs d h hn => by
  obtain ⟨xs, hx⟩ := seq_open (c := c) ht hk h0 h (fun D l r hd hi cs' n Pl h2 => by
    rw [hd] at hn
    exact he enc w base spare held n cs' _ h2 (near_elem ht hn hi))
  obtain ⟨v, hv⟩ : ∃ v, cs = [v] := by obtain ⟨v, _, e, _⟩ := hx; exact ⟨v, e⟩
  subst hv
  refine ⟨xs, hx, ?_⟩
  have := near_slice ht hx h hn
  exact Nat.le_trans (Nat.le_mul_of_pos_right _ hby) this
theorem nearN_one {P : Program} {α : Type} {c : Cd α} {fs : Array Field} {H : Type} {enc : TypeId × Value → H} {w : World} {base : Nat} {spare : Nat → Bool} {held : Bool} {cs : List Value} (i : Nat) (f : Field)
    (h : ∀ (i : Nat) (f : Field), fs[i]? = some f → ∀ (hi : i < cs.length), ∃ n y, DataW.trod enc P w base spare held n f.type [cs[i]] = some y ∧ Near P f.type y.1) (hf : fs[i]? = some f) (hi : i < cs.length) (hc : OpensN P f.type c) : ∃ x, c.rd w [cs[i]] x := by
  obtain ⟨n, y, hy, hn⟩ := h i f hf hi
  exact hc enc w base spare held n _ _ hy hn
theorem Reads.q {α : Type} {c : Cd α} {w : World} {v : Value} {xs : List α} (h : Reads c.sq w v xs) : Reads c.seq w v xs := h.1
theorem Reads.le {α : Type} {c : Cd α} {w : World} {v : Value} {xs : List α} (h : Reads c.sq w v xs) : xs.length ≤ reachBytes := h.2
end Go.Proofs.YtjggklfegcejhaaGreat
