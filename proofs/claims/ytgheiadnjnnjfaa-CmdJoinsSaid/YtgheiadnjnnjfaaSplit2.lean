/- Contracts of cmd.Split and of its closure: the parts of a line. -/
import Derived.Test.YtgheiadnjnnjfaaSplit
namespace Go.Proofs.Ytgheiadnjnnjfaa
open Go.RowKit Go.PlainAid

/-- Below base all is as it was, but for two blocks. -/
structure Kp (base bo bp : Nat) (w w' : World) : Prop where
  os : w'.os = w.os
  tape : w'.tape = w.tape
  output : w'.output = w.output
  size : w.heap.size ≤ w'.heap.size
  block : ∀ k, k < base → k ≠ bo → k ≠ bp → w'.heap[k]? = w.heap[k]?
theorem Kp.refl (base bo bp : Nat) (w : World) : Kp base bo bp w w := ⟨rfl, rfl, rfl, Nat.le_refl _, fun _ _ _ _ => rfl⟩
theorem Kp.trans {base bo bp : Nat} {a b c : World} (h : Kp base bo bp a b) (k : Kp base bo bp b c) : Kp base bo bp a c :=
  ⟨k.os.trans h.os, k.tape.trans h.tape, k.output.trans h.output, Nat.le_trans h.size k.size, fun i h1 h2 h3 => (k.block i h1 h2 h3).trans (h.block i h1 h2 h3)⟩
theorem Kp.below {base bo bp : Nat} {a b : World} (h : Below base a b) : Kp base bo bp a b := ⟨h.os, h.tape, h.output, h.size, fun i h1 _ _ => h.block i h1⟩
theorem Kp.set {base bo bp : Nat} (a : World) (b : Nat) (hb : b = bo ∨ b = bp) (u : Value) : Kp base bo bp a (a.setCell ⟨b, 0, none⟩ u) :=
  ⟨rfl, rfl, rfl, by simp [World.setCell], fun i _ h2 h3 => Below.heap_setCell _ _ _ _ (by rcases hb with h | h <;> (simp; omega))⟩
theorem Kp.toBelow {base bo bp B : Nat} {a b : World} (h : Kp base bo bp a b) (h1 : B ≤ base) (h2 : B ≤ bo) (h3 : B ≤ bp) : Below B a b :=
  ⟨h.os, h.tape, h.output, h.size, fun k hk => h.block k (by omega) (by omega) (by omega)⟩
theorem Kp.cell {base bo bp : Nat} {a b : World} (h : Kp base bo bp a b) {g i : Nat} (h1 : g < base) (h2 : g ≠ bo) (h3 : g ≠ bp) : b.cell? ⟨g, i, none⟩ = a.cell? ⟨g, i, none⟩ := World.cell?_of_block (h.block g h1 h2 h3)

/-- The two variables that the closure has captured, and what they hold. -/
structure St (w : World) (tll tl te : TypeId) (base bo bp : Nat) (vo vp : Value) (ls : List (List ByteArray)) (cur : List ByteArray) (vs : List Value) (B : Nat) : Prop where
  out : w.heap[bo]? = some (.cells #[vo] tll (0, 0))
  part : w.heap[bp]? = some (.cells #[vp] tl (0, 0))
  core : Core w tl te base vo vp ls cur vs B
  lo : bo < base
  lp : bp < base
  ne : bo ≠ bp
theorem set_grown (w : World) (b : Nat) (u : Value) : w.grownBy (w.setCell ⟨b, 0, none⟩ u) (some b) := ⟨rfl, rfl, rfl, by simp [World.setCell], fun k _ h => Below.heap_setCell _ _ _ _ (fun e => h (by rw [e]))⟩
theorem set_other {w : World} {b k : Nat} {u : Value} {o : Obj} (h : w.heap[k]? = some o) (hne : k ≠ b) : (w.setCell ⟨b, 0, none⟩ u).heap[k]? = some o := by rw [Below.heap_setCell _ _ _ _ hne]; exact h
/-- A store of nil into the list that has begun. -/
theorem St.drop {w : World} {tll tl te : TypeId} {base bo bp : Nat} {vo vp : Value} {ls : List (List ByteArray)} {cur : List ByteArray} {vs : List Value} {B : Nat} (h : St w tll tl te base bo bp vo vp ls cur vs B) :
    St (w.setCell ⟨bp, 0, none⟩ (.slice none 0 0)) tll tl te base bo bp vo (.slice none 0 0) ls [] vs w.heap.size :=
  ⟨set_other h.out h.ne, one_setCell h.part, by
    have := (Core.reset h.core).kept (set_grown w bp (.slice none 0 0)) (fun k hk => by cases hk; exact h.lp)
    exact this, h.lo, h.lp, h.ne⟩
theorem St.kept {w w' : World} {tll tl te : TypeId} {base bo bp : Nat} {vo vp : Value} {ls : List (List ByteArray)} {cur : List ByteArray} {vs : List Value} {B : Nat} (h : St w tll tl te base bo bp vo vp ls cur vs B) (hg : w.grownBy w' none) : St w' tll tl te base bo bp vo vp ls cur vs B :=
  ⟨by rw [hg.block bo (lt_of_block h.out) (by simp)]; exact h.out, by rw [hg.block bp (lt_of_block h.part) (by simp)]; exact h.part, h.core.kept hg (fun k hk => by cases hk), h.lo, h.lp, h.ne⟩
/-- Behind an append to the list of lists, and the two stores. -/
theorem St.out1 {w w1 : World} {tll tl te : TypeId} {base bo bp : Nat} {vo vo' vp : Value} {ls : List (List ByteArray)} {cur : List ByteArray} {vs : List Value} {B : Nat} (hne : tl ≠ te) (h : St w tll tl te base bo bp vo vp ls cur vs B)
    (hg : w.grownBy w1 vo.ownBlock) (h' : w1.ownsRow base tl 1 vo' (ls.length + 1) (vs ++ [vp])) :
    St ((w1.setCell ⟨bo, 0, none⟩ vo').setCell ⟨bp, 0, none⟩ (.slice none 0 0)) tll tl te base bo bp vo' (.slice none 0 0) (ls ++ [cur]) [] (vs ++ [vp]) w1.heap.size := by
  have hb : ∀ k, vo.ownBlock = some k → base ≤ k := own_lt h.core.2.2.1
  have ho : w1.heap[bo]? = some (.cells #[vo] tll (0, 0)) := by rw [hg.block bo (lt_of_block h.out) (fun e => by have := hb _ e.symm; have := h.lo; omega)]; exact h.out
  have hp : w1.heap[bp]? = some (.cells #[vp] tl (0, 0)) := by rw [hg.block bp (lt_of_block h.part) (fun e => by have := hb _ e.symm; have := h.lp; omega)]; exact h.part
  have hc := Core.flush hne h.core hg h'
  refine ⟨set_other (one_setCell ho) h.ne, one_setCell (set_other hp (Ne.symm h.ne)), ?_, h.lo, h.lp, h.ne⟩
  exact (hc.kept (set_grown w1 bo vo') (fun k hk => by cases hk; exact h.lo)).kept (set_grown _ bp _) (fun k hk => by cases hk; exact h.lp)
theorem St.push {w w1 : World} {tll tl te : TypeId} {base bo bp : Nat} {vo vp vp' : Value} {ls : List (List ByteArray)} {cur : List ByteArray} {x : ByteArray} {vs : List Value} {B : Nat} (hne : tl ≠ te) (h : St w tll tl te base bo bp vo vp ls cur vs B)
    (hg : w.grownBy w1 vp.ownBlock) (h' : w1.ownsRow B te 1 vp' (cur.length + 1) (cur.map Value.string ++ [.string x])) :
    St (w1.setCell ⟨bp, 0, none⟩ vp') tll tl te base bo bp vo vp' ls (cur ++ [x]) vs B := by
  have hb : ∀ k, vp.ownBlock = some k → base ≤ k := fun k hk => Nat.le_trans h.core.1 (own_lt h.core.2.2.2.1 k hk)
  have ho : w1.heap[bo]? = some (.cells #[vo] tll (0, 0)) := by rw [hg.block bo (lt_of_block h.out) (fun e => by have := hb _ e.symm; have := h.lo; omega)]; exact h.out
  have hp : w1.heap[bp]? = some (.cells #[vp] tl (0, 0)) := by rw [hg.block bp (lt_of_block h.part) (fun e => by have := hb _ e.symm; have := h.lp; omega)]; exact h.part
  exact ⟨set_other ho h.ne, one_setCell hp, (Core.push hne h.core hg h').kept (set_grown w1 bp vp') (fun k hk => by cases hk; exact h.lp), h.lo, h.lp, h.ne⟩

theorem cells_at {w w1 : World} {tll tl te : TypeId} {base bo bp : Nat} {vo vp : Value} {ls : List (List ByteArray)} {cur : List ByteArray} {vs : List Value} {B : Nat} {o : Obj} (h : St w tll tl te base bo bp vo vp ls cur vs B) (hg : (w.alloc o).grownBy w1 vo.ownBlock) :
    w1.cell? ⟨bo, 0, none⟩ = some vo ∧ w1.frozen? ⟨bo, 0, none⟩ = false ∧ w1.cell? ⟨bp, 0, none⟩ = some vp ∧ w1.frozen? ⟨bp, 0, none⟩ = false := by
  have hb : ∀ k, vo.ownBlock = some k → base ≤ k := own_lt h.core.2.2.1
  have h2 := h.kept (World.grownBy_alloc w o none)
  have ho : w1.heap[bo]? = some (.cells #[vo] tll (0, 0)) := by rw [hg.block bo (lt_of_block h2.out) (fun e => by have := hb _ e.symm; have := h.lo; omega)]; exact h2.out
  have hp : w1.heap[bp]? = some (.cells #[vp] tl (0, 0)) := by rw [hg.block bp (lt_of_block h2.part) (fun e => by have := hb _ e.symm; have := h.lp; omega)]; exact h2.part
  exact ⟨cell_of_one ho, free_of_one ho, cell_of_one hp, free_of_one hp⟩

theorem set_cell_other {w : World} {bo bp : Nat} {u v : Value} (h : w.cell? ⟨bp, 0, none⟩ = some v) (hne : bo ≠ bp) : (w.setCell ⟨bo, 0, none⟩ u).cell? ⟨bp, 0, none⟩ = some v := by
  rw [World.cell?_setCell_other _ _ _ _ (fun e => hne (congrArg Addr.block e))]; exact h

theorem flush_any (w : World) (base bo bp : Nat) (vo vp : Value) (ls : List (List ByteArray)) (cur : List ByteArray) (vs : List Value) (B : Nat) (h : St w 23 29 9 base bo bp vo vp ls cur vs B) (hl : ls.length ≤ 1000000) :
    Calls Try.prog 14 #[.pointer (some ⟨bp, 0, none⟩), .pointer (some ⟨bo, 0, none⟩)] w fun e w' => e = .returned (.tuple #[]) ∧ (∃ vo' vs' B', St w' 23 29 9 base bo bp vo' (.slice none 0 0) (ls ++ flushL cur) [] vs' B') ∧ Kp base bo bp w w' := by
  obtain ⟨i1, hj, hy0, hy1, hy2⟩ := info_parts Try.infoL
  have hb4 := len_bd hl
  obtain ⟨ap, cp, hvp⟩ := own_shape h.core.2.2.2.1
  subst hvp
  have H := Lib.hid h
  have hco := cell_of_one h.out
  have hfo := free_of_one h.out
  have hcp := cell_of_one h.part
  have hfp := free_of_one h.part
  have hne := h.ne
  clear h
  by_cases hc : 0 < cur.length
  · have hf : Hid (flushL cur = [cur]) := Lib.hid (by cases cur with | nil => simp at hc | cons a t => rfl)
    go_enter Try.func14, Try.ntmps14
    go_wp2_with (at_builtin; refine wpList_append_own _ rfl _ _ 23 rfl base 29 i1 (.slice none 0 0) 1 24 Try.underlying23 hj hy0 hy1 hy2 rfl (by decide) _ _ _ rfl (H.out.core.2.2.1.alloc _) ⟨w.heap.size, 0, none⟩ 1 1 [.slice ap cur.length cp] rfl rfl (cell_one_new _ _ _) (one_slice _ _ _) hb4.1 hb4.2.2 (le_alloc (Nat.le_trans H.out.core.1 H.out.core.2.1) _) ?_; intro v3 w3 hown3 hgrow3 _; obtain ⟨a3, c3, hv3⟩ := own_shape hown3; subst hv3; have hst := Lib.hid (St.out1 (by decide) (H.out.kept (World.grownBy_alloc _ _ none)) hgrow3 hown3); have hk1 := Lib.hid (((Below.refl base w).alloc (Nat.le_trans H.out.core.1 H.out.core.2.1) _).grown hgrow3 (le_alloc (Nat.le_trans H.out.core.1 H.out.core.2.1) _) (own_lt H.out.core.2.2.1)); have hh3 := cells_at H.out hgrow3; have h31 := hh3.1; have h32 := hh3.2.1; have h33 := hh3.2.2.1; have h34 := hh3.2.2.2; have h35 := fun u => set_cell_other (u := u) h33 hne; clear hh3 hown3 hgrow3)
    go_end0
    refine ⟨rfl, ⟨_, _, _, by rw [hf.out]; exact hst⟩, ?_⟩
    exact ((Kp.below hk1).trans (Kp.set w3 bo (.inl rfl) _)).trans (Kp.set _ bp (.inr rfl) _)
  · have hf : Hid (flushL cur = []) := Lib.hid (by cases cur with | nil => rfl | cons a t => simp at hc)
    go_enter Try.func14, Try.ntmps14
    go_wp2
    go_end0
    exact ⟨rfl, ⟨vo, vs, _, by rw [hf.out, List.append_nil]; exact H.out.drop⟩, Kp.set w bp (.inr rfl) _⟩
end Go.Proofs.Ytgheiadnjnnjfaa
