/- Memory, for every package: whole blocks, slices of structs, what stays. -/
import Derived.Test.YtjggklfegcejhaaGreatBase
import Derived.Laws.AppendOwn
import Derived.Laws.OwnMore
import Derived.OneCell
import Derived.Below
namespace Go.Proofs.YtjggklfegcejhaaGreat
open Go.RowKit Go.PlainAid
set_option linter.unusedVariables false
set_option linter.unusedSimpArgs false

/-- Block k holds the cells cs and no more, none frozen. -/
def BK (w : World) (k : Nat) (cs : List Value) (T : TypeId) : Prop := w.heap[k]? = some (.cells cs.toArray T (0, 0))
theorem BK.lt {w : World} {k : Nat} {cs : List Value} {T : TypeId} (h : BK w k cs T) : k < w.heap.size := lt_of_block h
theorem BK.cell {w : World} {k : Nat} {cs : List Value} {T : TypeId} (h : BK w k cs T) (o : Nat) : w.cell? ⟨k, o, none⟩ = cs[o]? := by
  unfold BK at h; simp [World.cell?, h]
theorem BK.fr {w : World} {k : Nat} {cs : List Value} {T : TypeId} (h : BK w k cs T) (o : Nat) : w.frozen? ⟨k, o, none⟩ = false := by
  unfold BK at h; simp [World.frozen?, h]
theorem BK.new (w : World) (cs : List Value) (T : TypeId) : BK (w.alloc (.cells cs.toArray T)) w.heap.size cs T := by
  unfold BK; show (w.heap.push _)[w.heap.size]? = _; simp
theorem BK.kept {w w' : World} {k : Nat} {cs : List Value} {T : TypeId} {row : Option Nat} (h : BK w k cs T) (hg : w.grownBy w' row) (hr : ∀ j, row = some j → j ≠ k) : BK w' k cs T :=
  (hg.block k h.lt (fun e => hr k e.symm rfl)).trans h
theorem BK.below {w w' : World} {k : Nat} {cs : List Value} {T : TypeId} (h : BK w k cs T) (hb : Below w.heap.size w w') : BK w' k cs T := (hb.block k h.lt).trans h
theorem BK.drewN {w : World} {k : Nat} {cs : List Value} {T : TypeId} (h : BK w k cs T) (n : Nat) : BK (w.drewN n) k cs T := h
theorem BK.alloc {w : World} {k : Nat} {cs : List Value} {T : TypeId} (h : BK w k cs T) (o : Obj) : BK (w.alloc o) k cs T := (Below.heap_alloc _ _ _ h.lt).trans h
theorem BK.set {w : World} {k : Nat} {cs : List Value} {T : TypeId} (h : BK w k cs T) (o : Nat) (u : Value) : BK (w.setCell ⟨k, o, none⟩ u) k (cs.set o u) T := by
  unfold BK at *
  simp only [World.setCell, Array.getElem?_modify, h]
  simp
theorem BK.setO {w : World} {k b : Nat} {cs : List Value} {T : TypeId} (h : BK w k cs T) (hb : b ≠ k) (o : Nat) (u : Value) : BK (w.setCell ⟨b, o, none⟩ u) k cs T := by
  unfold BK at *
  rw [Below.heap_setCell _ _ _ _ (by simpa using fun e => hb e.symm)]; exact h

/-- The slice value v reads as rows of k cells each. -/
def SLN (k : Nat) (w : World) (v : Value) (rows : List (List Value)) : Prop :=
  rows.length ≤ maxLen ∧ (∀ r ∈ rows, r.length = k) ∧ ((rows = [] ∧ ∃ a c, v = .slice a 0 c ∧ (a = none → c = 0)) ∨
  ∃ b off c, v = .slice (some ⟨b, off, none⟩) rows.length c ∧ b < w.heap.size ∧ ∀ i j (h : i < rows.length), j < k → w.cell? ⟨b, off + i * k + j, none⟩ = rows[i][j]?)

theorem SLN.below {k : Nat} {w w' : World} {v : Value} {rows : List (List Value)} (h : SLN k w v rows) (hb : Below w.heap.size w w') : SLN k w' v rows := by
  refine ⟨h.1, h.2.1, ?_⟩
  rcases h.2.2 with h0 | ⟨b, off, c, rfl, hlt, hc⟩
  · exact .inl h0
  · exact .inr ⟨b, off, c, rfl, Nat.lt_of_lt_of_le hlt hb.size, fun i j hi hj => by rw [hb.cell (p := ⟨b, off + i * k + j, none⟩) hlt]; exact hc i j hi hj⟩
theorem SLN.nil (k : Nat) (w : World) (a : Option Addr) (c : Nat) (h : a = none → c = 0 := by simp) : SLN k w (.slice a 0 c) [] := ⟨Nat.zero_le _, (fun r h => by cases h), .inl ⟨rfl, a, c, rfl, h⟩⟩
theorem SLN.len {k : Nat} {w : World} {v : Value} {rows : List (List Value)} (h : SLN k w v rows) : ∃ a c, v = .slice a rows.length c := by
  rcases h.2.2 with ⟨rfl, a, c, rfl, _⟩ | ⟨b, off, c, rfl, _⟩
  · exact ⟨a, c, rfl⟩
  · exact ⟨_, _, rfl⟩
theorem SLN.kept {k : Nat} {w w' : World} {v : Value} {rows : List (List Value)} {row : Option Nat} (h : SLN k w v rows) (hg : w.grownBy w' row) (hr : ∀ j, row = some j → v.ownBlock ≠ some j) : SLN k w' v rows := by
  refine ⟨h.1, h.2.1, ?_⟩
  rcases h.2.2 with h0 | ⟨b, off, c, rfl, hlt, hc⟩
  · exact .inl h0
  · refine .inr ⟨b, off, c, rfl, Nat.lt_of_lt_of_le hlt hg.size, fun i j hi hj => ?_⟩
    have hk := hg.block b hlt (fun e => by have := hr b e.symm; simp [Value.ownBlock] at this)
    rw [World.cell?_of_block (a := ⟨b, off + i * k + j, none⟩) hk]; exact hc i j hi hj

theorem flat_len {k : Nat} : ∀ (rows : List (List Value)), (∀ r ∈ rows, r.length = k) → rows.flatten.length = rows.length * k
  | [], _ => by simp
  | r :: rs, h => by
    simp only [List.flatten_cons, List.length_append, List.length_cons]
    rw [flat_len rs (fun x hx => h x (List.mem_cons_of_mem _ hx)), h r (List.mem_cons_self ..), Nat.add_mul, Nat.one_mul, Nat.add_comm]
theorem flat_at {k : Nat} : ∀ (rows : List (List Value)), (∀ r ∈ rows, r.length = k) → ∀ i j (hi : i < rows.length), j < k → rows.flatten[i * k + j]? = rows[i][j]?
  | [], _, i, j, hi, _ => by simp at hi
  | r :: rs, h, 0, j, hi, hj => by
    simp only [List.flatten_cons, Nat.zero_mul, Nat.zero_add, List.getElem_cons_zero]
    rw [List.getElem?_append_left (by rw [h r (List.mem_cons_self ..)]; exact hj)]
  | r :: rs, h, i + 1, j, hi, hj => by
    have hr := h r (List.mem_cons_self ..)
    have e : (i + 1) * k + j = r.length + (i * k + j) := by rw [hr, Nat.add_mul, Nat.one_mul]; omega
    simp only [List.flatten_cons, List.getElem_cons_succ]
    rw [e, List.getElem?_append_right (Nat.le_add_right _ _), Nat.add_sub_cancel_left]
    exact flat_at rs (fun x hx => h x (List.mem_cons_of_mem _ hx)) i j (by simpa using hi) hj
theorem SLN.own {k : Nat} {w : World} {base : Nat} {e : TypeId} {v : Value} {n : Nat} {rows : List (List Value)} (h : w.ownsRow base e k v n rows.flatten) (hn : rows.length = n) (hk : ∀ r ∈ rows, r.length = k) (hm : n ≤ maxLen) : SLN k w v rows := by
  refine ⟨by omega, hk, ?_⟩
  rcases h.2 with ⟨rfl, h0⟩ | ⟨g, cap, cur, rfl, hbg, hg, hnc, hcm, hcs, htake⟩
  · exact .inl ⟨List.length_eq_zero_iff.1 (by omega), none, 0, by simp [h0], fun _ => rfl⟩
  · subst hn
    refine .inr ⟨g, 0, cap, rfl, lt_of_block hg, fun i j hi hj => ?_⟩
    have hlt : i * k + j < rows.length * k := by
      have : (i + 1) * k ≤ rows.length * k := Nat.mul_le_mul_right _ hi
      rw [Nat.add_mul, Nat.one_mul] at this; omega
    rw [Nat.zero_add, h.cellAt (i * k + j) hlt, flat_at rows hk i j hi hj]

/-! ### What has grown -/
theorem gr_refl (w : World) (r : Option Nat) : w.grownBy w r := ⟨rfl, rfl, rfl, Nat.le_refl _, fun _ _ _ => rfl⟩
theorem gr_trans {a b c : World} {r : Option Nat} (h : a.grownBy b r) (k : b.grownBy c r) : a.grownBy c r :=
  ⟨k.os.trans h.os, k.tape.trans h.tape, k.output.trans h.output, Nat.le_trans h.size k.size, fun i hi hn => (k.block i (Nat.lt_of_lt_of_le hi h.size) hn).trans (h.block i hi hn)⟩
theorem gr_drewN (w : World) (r : Option Nat) (n : Nat) : w.grownBy (w.drewN n) r := ⟨rfl, rfl, rfl, Nat.le_refl _, fun _ _ _ => rfl⟩
theorem gr_below {a b : World} {r : Option Nat} (h : Below a.heap.size a b) : a.grownBy b r := ⟨h.os, h.tape, h.output, h.size, fun k hk _ => h.block k hk⟩
theorem gr_alloc (w : World) (o : Obj) (r : Option Nat) : w.grownBy (w.alloc o) r := World.grownBy_alloc w o r
theorem gr_set (w : World) (k o : Nat) (u : Value) : w.grownBy (w.setCell ⟨k, o, none⟩ u) (some k) := ⟨rfl, rfl, rfl, by simp [World.setCell], fun i hi hn => Below.heap_setCell _ _ _ _ (by simpa using fun e => hn (by rw [e]))⟩
theorem gr_new {w a b : World} {r row : Option Nat} (h : w.grownBy a r) (g : a.grownBy b row) (hr : ∀ k, row = some k → w.heap.size ≤ k) : w.grownBy b r :=
  ⟨g.os.trans h.os, g.tape.trans h.tape, g.output.trans h.output, Nat.le_trans h.size g.size, fun i hi hn =>
    (g.block i (Nat.lt_of_lt_of_le hi h.size) (fun e => by have := hr i e.symm; omega)).trans (h.block i hi hn)⟩
theorem below_of {w w' : World} {row : Option Nat} (h : w.grownBy w' row) (hr : ∀ k, row = some k → w.heap.size ≤ k) : Below w.heap.size w w' :=
  ⟨h.os, h.tape, h.output, h.size, fun i hi => h.block i hi (fun e => by have := hr i e.symm; omega)⟩

theorem bl_drewN {B : Nat} {a w : World} (h : Below B a w) (n : Nat) : Below B a (w.drewN n) := ⟨h.os, h.tape, h.output, h.size, h.block⟩

theorem fr_alloc (w : World) (o : Obj) {k : Nat} (j : Nat) (h : k < w.heap.size) : (w.alloc o).frozen? ⟨k, j, none⟩ = w.frozen? ⟨k, j, none⟩ := Below.frozen (p := ⟨k, j, none⟩) ((Below.refl _ _).alloc (Nat.le_refl _) o) h
theorem bl_a {w x : World} (h : Below w.heap.size w x) (o : Obj) : Below w.heap.size w (x.alloc o) := h.alloc h.size o
theorem bl_s {w x : World} {k : Nat} (h : Below w.heap.size w x) (o : Nat) (u : Value) (hk : w.heap.size ≤ k := by omega) : Below w.heap.size w (x.setCell ⟨k, o, none⟩ u) := h.setCell hk u
theorem bl_g {w x y : World} {row : Option Nat} (h : Below w.heap.size w x) (hg : x.grownBy y row) (hr : ∀ k, row = some k → w.heap.size ≤ k) : Below w.heap.size w y := h.grown hg h.size hr

/-! ### Rows of one's own -/
theorem ow_shape {w : World} {base : Nat} {e : TypeId} {k : Nat} {v : Value} {n : Nat} {xs : List Value} (h : w.ownsRow base e k v n xs) : ∃ a c, v = .slice a n c := by
  rcases h.2 with ⟨rfl, rfl⟩ | ⟨g, cap, cur, rfl, _⟩
  · exact ⟨_, _, rfl⟩
  · exact ⟨_, _, rfl⟩
theorem ow_lo {w : World} {base : Nat} {e : TypeId} {size : Nat} {v : Value} {n : Nat} {xs : List Value} (h : w.ownsRow base e size v n xs) : ∀ k, v.ownBlock = some k → base ≤ k := fun k hk => (h.lt k hk).1
theorem ow_grown {w w' : World} {base : Nat} {e : TypeId} {k : Nat} {v : Value} {n : Nat} {xs : List Value} {row : Option Nat} (h : w.ownsRow base e k v n xs) (hg : w.grownBy w' row) (hr : ∀ j, row = some j → j < base) : w'.ownsRow base e k v n xs := by
  refine h.kept hg ?_
  cases hv : v.ownBlock with
  | none => exact .inl rfl
  | some b =>
    right
    intro he
    have h1 := (h.lt b hv).1
    have h2 := hr b he.symm
    omega
theorem ow_below {w w' : World} {base : Nat} {e : TypeId} {size : Nat} {v : Value} {n : Nat} {xs : List Value} (h : w.ownsRow base e size v n xs) (hb : Below w.heap.size w w') : w'.ownsRow base e size v n xs :=
  h.kept (row := none) (gr_below hb) (by cases hv : v.ownBlock <;> simp)
theorem ow_drewN {w : World} {base : Nat} {e : TypeId} {size : Nat} {v : Value} {n : Nat} {xs : List Value} (h : w.ownsRow base e size v n xs) (m : Nat) : (w.drewN m).ownsRow base e size v n xs := h
theorem ow_le {a : Nat} {w : World} (h : a ≤ w.heap.size) (o : Obj) : a ≤ (w.alloc o).heap.size := by rw [World.size_alloc]; omega
theorem ow_one {x : Value} (h : x.oneCell' = true) : ∀ u ∈ [x], u.oneCell' = true := by intro u hu; simp at hu; subst hu; exact h
/-- The cells of a struct that has just been laid. -/
theorem news_lit (w : World) (cs : List Value) (T : TypeId) : ∀ j u, cs[j]? = some u → (w.alloc (.cells cs.toArray T)).cell? ((⟨w.heap.size, 0, none⟩ : Addr).add j) = some u := by
  intro j u h
  rw [addr0, (BK.new w cs T).cell]; exact h
end Go.Proofs.YtjggklfegcejhaaGreat
