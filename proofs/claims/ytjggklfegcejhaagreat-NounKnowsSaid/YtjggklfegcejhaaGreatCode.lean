/- How data of Go's types read, as data of Lean's: codes; what came in as an argument has one. -/
import Derived.Test.YtjggklfegcejhaaGreatMem
import Derived.Deep.Slices
import Derived.Deep.Fields
import Derived.ChangeSame
namespace Go.Proofs.YtjggklfegcejhaaGreat
open Go.RowKit Go.PlainAid Go.ChangeShapes Go.WideShapes Go.Deep
set_option linter.unusedVariables false
set_option linter.unusedSimpArgs false

/-- A code: so many cells, and what they read as. -/
structure Cd (α : Type) where
  k : Nat
  rd : World → List Value → α → Prop
  len : ∀ {w : World} {cs : List Value} {x : α}, rd w cs x → cs.length = k
  below : ∀ {w w' : World} {cs : List Value} {x : α}, rd w cs x → Below w.heap.size w w' → rd w' cs x
def Cd.int (q : IntKind) : Cd Int := ⟨1, fun _ cs n => cs = [.int q n] ∧ (Lit.int q n).wf = true, fun h => by rw [h.1]; rfl, fun h _ => h⟩
def Cd.bool : Cd Bool := ⟨1, fun _ cs n => cs = [.bool n], fun h => by rw [h]; rfl, fun h _ => h⟩
def Cd.str : Cd (List UInt8) := ⟨1, fun _ cs l => cs = [.string ⟨l.toArray⟩] ∧ l.length ≤ maxLen, fun h => by rw [h.1]; rfl, fun h _ => h⟩
/-- The slice value v reads as rows; its capacity is no less. -/
def SLM (k : Nat) (w : World) (v : Value) (rows : List (List Value)) : Prop := SLN k w v rows ∧ ∃ a c, v = .slice a rows.length c ∧ rows.length ≤ c
theorem SLM.below {k : Nat} {w w' : World} {v : Value} {rows : List (List Value)} (h : SLM k w v rows) (hb : Below w.heap.size w w') : SLM k w' v rows := ⟨h.1.below hb, h.2⟩
def Cd.seq {α : Type} (c : Cd α) : Cd (List α) :=
  ⟨1, fun w cs xs => ∃ v rows, cs = [v] ∧ SLM c.k w v rows ∧ rows.length = xs.length ∧ ∀ i (h : i < rows.length) (h' : i < xs.length), c.rd w rows[i] xs[i],
    fun h => by obtain ⟨v, rows, rfl, _⟩ := h; rfl,
    fun h hb => by obtain ⟨v, rows, h1, h2, h3, h4⟩ := h; exact ⟨v, rows, h1, h2.below hb, h3, fun i a b => c.below (h4 i a b) hb⟩⟩
/-- The list that a slice value reads as. -/
def Reads {α : Type} (c : Cd α) (w : World) (v : Value) (x : α) : Prop := c.rd w [v] x
theorem Reads.below {α : Type} {c : Cd α} {w w' : World} {v : Value} {x : α} (h : Reads c w v x) (hb : Below w.heap.size w w') : Reads c w' v x := c.below h hb
theorem Reads.int {q : IntKind} {w : World} {v : Value} {n : Int} (h : Reads (Cd.int q) w v n) : v = .int q n ∧ (Lit.int q n).wf = true := ⟨by have := h.1; simpa using this, h.2⟩
theorem Reads.bool {w : World} {v : Value} {n : Bool} (h : Reads Cd.bool w v n) : v = .bool n := by have : [v] = [.bool n] := h; simpa using this
theorem Reads.str {w : World} {v : Value} {l : List UInt8} (h : Reads Cd.str w v l) : v = .string ⟨l.toArray⟩ ∧ l.length ≤ maxLen := ⟨by have := h.1; simpa using this, h.2⟩
theorem Reads.len {α : Type} {c : Cd α} {w : World} {v : Value} {xs : List α} (h : Reads c.seq w v xs) : ∃ a cap, v = .slice a xs.length cap ∧ xs.length ≤ cap ∧ xs.length ≤ maxLen := by
  obtain ⟨v', rows, h1, h2, h3, h4⟩ := h
  obtain rfl : v = v' := by simpa using h1
  obtain ⟨a, cap, h5, h6⟩ := h2.2
  rw [h3] at h5 h6
  exact ⟨a, cap, h5, h6, by rw [← h3]; exact h2.1.1⟩
/-- A slice that is not empty: where it lies, and its rows' cells. -/
theorem Reads.open {α : Type} {c : Cd α} {w : World} {v : Value} {xs : List α} (h : Reads c.seq w v xs) (hn : 0 < xs.length) :
    ∃ b off cap, v = .slice (some ⟨b, off, none⟩) xs.length cap ∧ xs.length ≤ cap ∧ b < w.heap.size ∧ ∀ i (hi : i < xs.length), ∃ row, row.length = c.k ∧ c.rd w row xs[i] ∧ ∀ j, j < c.k → w.cell? ⟨b, off + i * c.k + j, none⟩ = row[j]? := by
  obtain ⟨v', rows, h1, h2, h3, h4⟩ := h
  obtain rfl : v = v' := by simpa using h1
  obtain ⟨a, cap, h5, h6⟩ := h2.2
  rcases h2.1.2.2 with ⟨h0, _⟩ | ⟨b, off, cap', e, hlt, hc⟩
  · rw [h0] at h3; simp at h3; omega
  · rw [h5] at e
    simp at e
    obtain ⟨rfl, rfl⟩ := e
    rw [h3] at h5 h6
    exact ⟨b, off, cap, h5, h6, hlt, fun i hi => ⟨rows[i]'(by omega), h2.1.2.1 _ (List.getElem_mem _), h4 i (by omega) hi, fun j hj => hc i j (by omega) hj⟩⟩

/-! ### What came in -/
/-- Whatever is read at the type t reads by the code. -/
def Opens (P : Program) {α : Type} (t : TypeId) (c : Cd α) : Prop :=
  ∀ {H : Type} (enc : TypeId × Value → H) (w : World) (base : Nat) (spare : Nat → Bool) (held : Bool) (fuel : Nat) (cs : List Value) (d : DataW H × List MemPlace),
    DataW.trod enc P w base spare held fuel t cs = some d → ∃ x, c.rd w cs x
theorem opens_int {P : Program} {t : TypeId} {q : IntKind} (ht : P.underlying t = some (.int q)) : Opens P t (Cd.int q) := fun enc w base spare held fuel cs d h => by
  obtain ⟨n, h1, _, h3⟩ := DataW.trod_int ht h
  exact ⟨n, h1, h3⟩
theorem opens_bool {P : Program} {t : TypeId} (ht : P.underlying t = some .bool) : Opens P t Cd.bool := fun enc w base spare held fuel cs d h => by
  obtain ⟨n, h1, _⟩ := DataW.trod_bool ht h
  exact ⟨n, h1⟩
theorem opens_str {P : Program} {t : TypeId} (ht : P.underlying t = some .string) : Opens P t Cd.str := fun enc w base spare held fuel cs d h => by
  obtain ⟨s, h1, _, h3⟩ := DataW.trod_string ht h
  exact ⟨s.data.toList, h1, by have : s.data.toList.length = s.size := by simp
                               omega⟩
theorem list_of {α : Type} (n : Nat) (p : Nat → α → Prop) (h : ∀ i, i < n → ∃ x, p i x) : ∃ xs : List α, xs.length = n ∧ ∀ i (hi : i < xs.length), p i xs[i] := by
  induction n with
  | zero => exact ⟨[], rfl, fun i hi => by cases hi⟩
  | succ n ih =>
    obtain ⟨xs, h1, h2⟩ := ih (fun i hi => h i (by omega))
    obtain ⟨x, hx⟩ := h n (by omega)
    refine ⟨xs ++ [x], by simp [h1], fun i hi => ?_⟩
    by_cases e : i < xs.length
    · rw [List.getElem_append_left e]; exact h2 i e
    · have : i = n := by simp at hi; omega
      subst this
      rw [List.getElem_append_right (by omega)]
      simp [h1]; exact hx
theorem addr_addC (b off : Nat) (i : Nat) : (⟨b, off, none⟩ : Addr).add i = ⟨b, off + i, none⟩ := by unfold Addr.add; split <;> simp_all
theorem seq_open {P : Program} {t e : TypeId} {α : Type} {c : Cd α} (ht : P.underlying t = some (.slice e)) (hk : P.cellsOf e = c.k) (h0 : 0 < c.k) {H : Type} {enc : TypeId × Value → H} {w : World} {base : Nat} {spare : Nat → Bool} {held : Bool} {fuel : Nat} {cs : List Value} {d : DataW H × List MemPlace}
    (h : DataW.trod enc P w base spare held fuel t cs = some d) (he : ∀ (D : DataW H) (l r : List (DataW H)), d.1 = .slice l r → D ∈ l → ∀ cs' n Pl, DataW.trod enc P w base spare held n e cs' = some (D, Pl) → ∃ x, c.rd w cs' x) : ∃ xs, c.seq.rd w cs xs := by
  rcases open_slice ht h with ⟨h1, _⟩ | ⟨a, len, cap, m, n, D, Pl, hcs, hb, hl, hm, hmm, hx, hi⟩
  · exact ⟨[], _, [], h1, ⟨⟨Nat.zero_le _, (fun r hr => by cases hr), .inl ⟨rfl, none, 0, rfl, fun _ => rfl⟩⟩, none, 0, rfl, Nat.le_refl _⟩, rfl, fun i hi => by cases hi⟩
  · have hlm : len ≤ m := by rw [hmm]; split <;> omega
    obtain ⟨ps, p1, p2⟩ := list_of len (fun i (p : List Value × α) => w.cells? base (a.add (i * P.cellsOf e)) (P.cellsOf e) = some p.1 ∧ c.rd w p.1 p.2) (fun i hi' => by
      obtain ⟨cs', h1, h2⟩ := hi i (by omega)
      obtain ⟨x, hx⟩ := he (D i) _ _ (by rw [hx]) (List.mem_map.2 ⟨i, List.mem_range.2 hi', rfl⟩) cs' n _ h2
      exact ⟨(cs', x), h1, hx⟩)
    have hrl : ∀ r ∈ ps.map (·.1), r.length = c.k := by
      intro r hr
      obtain ⟨p, hp, rfl⟩ := List.mem_map.1 hr
      obtain ⟨i, hi', rfl⟩ := List.getElem_of_mem hp
      exact c.len (p2 i hi').2
    refine ⟨ps.map (·.2), .slice (some a) len cap, ps.map (·.1), hcs, ⟨⟨by simp; omega, hrl, ?_⟩, some a, cap, by simp [p1], by simp; omega⟩, by simp, fun i h1 h2 => ?_⟩
    · by_cases hz : len = 0
      · left
        have : ps = [] := List.length_eq_zero_iff.1 (by omega)
        subst hz
        exact ⟨by rw [this]; rfl, some a, cap, rfl, fun e => by cases e⟩
      · right
        have hcell : ∀ i (h : i < ps.length) j, j < c.k → w.cell? (a.add (i * c.k + j)) = (ps[i]).1[j]? := fun i h j hj => by
          have h1 := (p2 i h).1
          obtain ⟨_, _, h3⟩ := World.cells?_some h1
          rw [hk] at h3
          rw [← h3 j hj, ← Go.Deep.add_add]
        obtain ⟨b, off, spot⟩ := a
        have hs : spot = none := by
          have := hcell 0 (by omega) 0 h0
          have hlen := c.len (p2 0 (by omega)).2
          rw [List.getElem?_eq_getElem (by omega)] at this
          simpa [Addr.add] using World.cell?_spot this
        subst hs
        refine ⟨b, off, cap, by simp [p1], ?_, fun i j hi' hj => ?_⟩
        · have := hcell 0 (by omega) 0 h0
          have hlen := c.len (p2 0 (by omega)).2
          rw [List.getElem?_eq_getElem (by omega), addr_addC] at this
          exact lt_cell this
        · have := hcell i (by simpa using hi') j hj
          rw [addr_addC] at this
          rw [Nat.add_assoc, this]; simp
    · have := p2 i (by simpa using h1)
      simpa using this.2
theorem opens_seq {P : Program} {t e : TypeId} {α : Type} {c : Cd α} (ht : P.underlying t = some (.slice e)) (hk : P.cellsOf e = c.k) (h0 : 0 < c.k) (he : Opens P e c) : Opens P t c.seq := fun enc w base spare held fuel cs d h =>
  seq_open ht hk h0 h (fun D l r _ _ cs' n Pl h2 => he enc w base spare held n cs' _ h2)
/-- The fields of a struct whose fields have one cell each. -/
theorem opens_fields {P : Program} {t : TypeId} {fs : Array Field} {H : Type} {enc : TypeId × Value → H} {w : World} {base : Nat} {spare : Nat → Bool} {held : Bool} {fuel : Nat} {cs : List Value} {d : DataW H × List MemPlace}
    (ht : P.underlying t = some (.struct fs)) (hone : oneCellFields P fs = true) (hC : P.cellsOf t = fs.size) (h : DataW.trod enc P w base spare held fuel t cs = some d) :
    cs.length = fs.size ∧ ∀ (i : Nat) (f : Field), fs[i]? = some f → ∀ (hi : i < cs.length), ∃ n y, DataW.trod enc P w base spare held n f.type [cs[i]] = some y := by
  obtain ⟨xs, n, _, _, hlen, hxl, hf⟩ := DataW.trod_struct ht h
  refine ⟨by omega, fun i f hi hil => ?_⟩
  obtain ⟨ho, hk⟩ := hone_of hone i f hi
  have h1 := hf i f hi
  rw [ho, hk] at h1
  have hd : (cs.drop i).take 1 = [cs[i]] := by rw [List.drop_eq_getElem_cons hil]; rfl
  rw [hd] at h1
  have hxi : i < xs.length := by have := (Array.getElem?_eq_some_iff.1 hi).1; omega
  rw [List.getElem?_eq_getElem hxi] at h1
  exact ⟨n, _, h1⟩
theorem opens_one {P : Program} {α : Type} {c : Cd α} {fs : Array Field} {H : Type} {enc : TypeId × Value → H} {w : World} {base : Nat} {spare : Nat → Bool} {held : Bool} {cs : List Value} (i : Nat) (f : Field)
    (h : ∀ (i : Nat) (f : Field), fs[i]? = some f → ∀ (hi : i < cs.length), ∃ n y, DataW.trod enc P w base spare held n f.type [cs[i]] = some y) (hf : fs[i]? = some f) (hi : i < cs.length) (hc : Opens P f.type c) : ∃ x, c.rd w [cs[i]] x := by
  obtain ⟨n, y, hy⟩ := h i f hf hi
  exact hc enc w base spare held n _ _ hy
theorem Opens.trod {P : Program} {α : Type} {t : TypeId} {c : Cd α} {H : Type} {enc : TypeId × Value → H} {w : World} {base : Nat} {spare : Nat → Bool} {held : Bool} {v : Value} {d : DataW H} {p : List MemPlace} (hc : Opens P t c)
    (h : DataW.Trod enc P w base spare held t v d p) : ∃ x, c.rd w v.cells.toList x := by
  obtain ⟨fuel, hf⟩ := h
  exact hc enc w base spare held fuel _ _ hf
end Go.Proofs.YtjggklfegcejhaaGreat
