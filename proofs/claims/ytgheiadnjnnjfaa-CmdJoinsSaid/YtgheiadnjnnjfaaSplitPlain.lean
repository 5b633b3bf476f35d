/- The plain law of a line's parts, and what a list of lists of texts that is being made keeps in memory. -/
import Derived.Test.YtgheiadnjnnjfaaWordsRef
import Derived.Test.YtgheiadnjnnjfaaLists
namespace Go.Proofs.Ytgheiadnjnnjfaa
open Go.RowKit Go.PlainAid

/-- A word that parts a line. -/
def isSep (x : ByteArray) : Bool := (x.toList == [46]) || (x.toList == [116, 104, 101, 110])
def flushL (cur : List ByteArray) : List (List ByteArray) := if cur.isEmpty then [] else [cur]
def partsG : List ByteArray → List ByteArray → List (List ByteArray)
  | [], cur => flushL cur
  | x :: t, cur => if isSep x then flushL cur ++ partsG t [] else partsG t (cur ++ [x])
def parts (l : List ByteArray) : List (List ByteArray) := partsG l []
/-- What Split answers. -/
def splitL (s : ByteArray) : List (List ByteArray) := if s.size ≤ 256 then (if (parts (wordsS s)).length ≤ 32 then parts (wordsS s) else []) else []
def splitE (s : ByteArray) : Int := if s.size ≤ 256 then (if (parts (wordsS s)).length ≤ 32 then 0 else 7) else 3

theorem partsG_len : ∀ (l cur : List ByteArray), (partsG l cur).length ≤ l.length + 1
  | [], cur => by unfold partsG flushL; split <;> simp
  | x :: t, cur => by
    have h1 := partsG_len t []
    have h2 := partsG_len t (cur ++ [x])
    unfold partsG
    split
    · have : (flushL cur).length ≤ 1 := by unfold flushL; split <;> simp
      simp; omega
    · simp; omega

/-- The parts vs read as ls, in rows between base and B. -/
def PartsIn (w : World) (te : TypeId) (base B : Nat) (vs : List Value) (ls : List (List ByteArray)) : Prop :=
  vs.length = ls.length ∧ ∀ i (h : i < vs.length) (h' : i < ls.length), w.ownsRow base te 1 vs[i] ls[i].length (ls[i].map Value.string) ∧ ∀ k, vs[i].ownBlock = some k → k < B
/-- A list of lists of texts, and one more list that has begun, all in new memory. -/
def Core (w : World) (tl te : TypeId) (base : Nat) (vo vp : Value) (ls : List (List ByteArray)) (cur : List ByteArray) (vs : List Value) (B : Nat) : Prop :=
  base ≤ B ∧ B ≤ w.heap.size ∧ w.ownsRow base tl 1 vo ls.length vs ∧ w.ownsRow B te 1 vp cur.length (cur.map Value.string) ∧ PartsIn w te base B vs ls

theorem own_kept {w w' : World} {base : Nat} {e : TypeId} {size : Nat} {v : Value} {n : Nat} {xs : List Value} {row : Option Nat} (h : w.ownsRow base e size v n xs) (hg : w.grownBy w' row) (hr : ∀ k, row = some k → k < base) : w'.ownsRow base e size v n xs := by
  refine h.kept hg ?_
  cases hv : v.ownBlock with
  | none => exact .inl rfl
  | some b =>
    right
    intro he
    have h1 := (h.lt b hv).1
    have h2 := hr b he.symm
    omega
/-- Rows of two element types are two rows. -/
theorem own_types {w : World} {b1 b2 : Nat} {e1 e2 : TypeId} {v1 v2 : Value} {n1 n2 : Nat} {xs ys : List Value} (h1 : w.ownsRow b1 e1 1 v1 n1 xs) (h2 : w.ownsRow b2 e2 1 v2 n2 ys) (he : e1 ≠ e2) (k : Nat) (hk : v1.ownBlock = some k) : v2.ownBlock ≠ some k := by
  intro hk2
  rcases h1.2 with ⟨rfl, _⟩ | ⟨g, cap, cur, rfl, _, hg, _⟩
  · simp [Value.ownBlock] at hk
  · rcases h2.2 with ⟨rfl, _⟩ | ⟨g2, cap2, cur2, rfl, _, hg2, _⟩
    · simp [Value.ownBlock] at hk2
    · simp [Value.ownBlock] at hk hk2
      subst hk; subst hk2
      rw [hg] at hg2
      simp at hg2
      exact he hg2.2
theorem own_kept' {w w' : World} {base : Nat} {e : TypeId} {v : Value} {n : Nat} {xs : List Value} {row : Option Nat} (h : w.ownsRow base e 1 v n xs) (hg : w.grownBy w' row) (hr : ∀ k, row = some k → v.ownBlock ≠ some k) : w'.ownsRow base e 1 v n xs := by
  refine h.kept hg ?_
  cases row with
  | none => cases hv : v.ownBlock <;> simp
  | some k => exact .inr (hr k rfl)
theorem own_base {w : World} {base base' : Nat} {e : TypeId} {v : Value} {n : Nat} {xs : List Value} (h : w.ownsRow base e 1 v n xs) (hb : base' ≤ base) : w.ownsRow base' e 1 v n xs := by
  refine ⟨h.1, h.2.imp id ?_⟩
  rintro ⟨g, cap, cur, e1, e2, rest⟩
  exact ⟨g, cap, cur, e1, Nat.le_trans hb e2, rest⟩

theorem PartsIn.kept {w w' : World} {te : TypeId} {base B : Nat} {vs : List Value} {ls : List (List ByteArray)} {row : Option Nat} (h : PartsIn w te base B vs ls) (hg : w.grownBy w' row)
    (hr : ∀ k, row = some k → ∀ u ∈ vs, u.ownBlock ≠ some k) : PartsIn w' te base B vs ls :=
  ⟨h.1, fun i a b => ⟨own_kept' (h.2 i a b).1 hg (fun k hk => hr k hk _ (List.getElem_mem a)), (h.2 i a b).2⟩⟩
theorem PartsIn.mono {w : World} {te : TypeId} {base B B' : Nat} {vs : List Value} {ls : List (List ByteArray)} (h : PartsIn w te base B vs ls) (hB : B ≤ B') : PartsIn w te base B' vs ls :=
  ⟨h.1, fun i a b => ⟨(h.2 i a b).1, fun k hk => Nat.lt_of_lt_of_le ((h.2 i a b).2 k hk) hB⟩⟩

theorem Core.start (w : World) (tl te : TypeId) {base : Nat} (hb : base ≤ w.heap.size) : Core w tl te base (.slice none 0 0) (.slice none 0 0) [] [] [] w.heap.size :=
  ⟨hb, Nat.le_refl _, World.ownsRow_nil _ _ _ _, World.ownsRow_nil _ _ _ _, rfl, fun i h => by cases h⟩
/-- What is written elsewhere does not matter. -/
theorem Core.kept {w w' : World} {tl te : TypeId} {base : Nat} {vo vp : Value} {ls : List (List ByteArray)} {cur : List ByteArray} {row : Option Nat} {vs : List Value} {B : Nat} (h : Core w tl te base vo vp ls cur vs B) (hg : w.grownBy w' row) (hr : ∀ k, row = some k → k < base) :
    Core w' tl te base vo vp ls cur vs B := by
  obtain ⟨h1, h2, h3, h4, h5⟩ := h
  refine ⟨h1, Nat.le_trans h2 hg.size, own_kept h3 hg hr, own_kept h4 hg (fun k hk => by have := hr k hk; omega), h5.kept hg fun k hk u hu he => ?_⟩
  obtain ⟨i, hi, rfl⟩ := List.getElem_of_mem hu
  have := (((h5.2 i hi (by rw [← h5.1]; exact hi)).1).lt k he).1
  have := hr k hk
  omega
/-- One more text in the list that has begun. -/
theorem Core.push {w w1 : World} {tl te : TypeId} {base : Nat} {vo vp vp' : Value} {ls : List (List ByteArray)} {cur : List ByteArray} {x : ByteArray} {vs : List Value} {B : Nat} (hne : tl ≠ te) (h : Core w tl te base vo vp ls cur vs B)
    (hg : w.grownBy w1 vp.ownBlock) (h' : w1.ownsRow B te 1 vp' (cur.length + 1) (cur.map Value.string ++ [.string x])) :
    Core w1 tl te base vo vp' ls (cur ++ [x]) vs B := by
  obtain ⟨h1, h2, h3, h4, h5⟩ := h
  refine ⟨h1, Nat.le_trans h2 hg.size, own_kept' h3 hg (fun k hk => own_types h4 h3 (Ne.symm hne) k hk), by simpa using h', h5.kept hg fun k hk u hu he => ?_⟩
  obtain ⟨i, hi, rfl⟩ := List.getElem_of_mem hu
  have a := (h5.2 i hi (by rw [← h5.1]; exact hi)).2 k he
  have b := (h4.lt k hk).1
  omega
/-- The list that has begun is ended, and one more of the lists. -/
theorem Core.flush {w w1 : World} {tl te : TypeId} {base : Nat} {vo vo' vp : Value} {ls : List (List ByteArray)} {cur : List ByteArray} {vs : List Value} {B : Nat} (hne : tl ≠ te) (h : Core w tl te base vo vp ls cur vs B)
    (hg : w.grownBy w1 vo.ownBlock) (h' : w1.ownsRow base tl 1 vo' (ls.length + 1) (vs ++ [vp])) :
    Core w1 tl te base vo' (.slice none 0 0) (ls ++ [cur]) [] (vs ++ [vp]) w1.heap.size := by
  obtain ⟨h1, h2, h3, h4, h5⟩ := h
  have hk5 : PartsIn w1 te base B vs ls := h5.kept hg fun k hk u hu he => by
    obtain ⟨i, hi, rfl⟩ := List.getElem_of_mem hu
    exact own_types h3 (h5.2 i hi (by rw [← h5.1]; exact hi)).1 hne k hk he
  have hk4 : w1.ownsRow B te 1 vp cur.length (cur.map Value.string) := own_kept' h4 hg (fun k hk => own_types h3 h4 hne k hk)
  refine ⟨Nat.le_trans h1 (Nat.le_trans h2 hg.size), Nat.le_refl _, by simpa using h', World.ownsRow_nil _ _ _ _, by simp [h5.1], fun i a b => ?_⟩
  by_cases hi : i < vs.length
  · have hi' : i < ls.length := by rw [← h5.1]; exact hi
    simp only [List.getElem_append_left hi, List.getElem_append_left hi']
    exact ⟨(hk5.2 i hi hi').1, fun k hk => ((hk5.2 i hi hi').1.lt k hk).2⟩
  · have e : i = vs.length := by simp at a; omega
    have e' : i = ls.length := by rw [← h5.1]; exact e
    have g1 : (vs ++ [vp])[i] = vp := by simp [e]
    have g2 : (ls ++ [cur])[i] = cur := by simp [e']
    rw [g1, g2]
    exact ⟨own_base hk4 h1, fun k hk => (hk4.lt k hk).2⟩
theorem Core.read {w : World} {tl te : TypeId} {base : Nat} {vo vp : Value} {ls : List (List ByteArray)} {cur : List ByteArray} {vs : List Value} {B : Nat} (h : Core w tl te base vo vp ls cur vs B) (hm : ls.length ≤ maxLen) (hm' : ∀ l ∈ ls, l.length ≤ maxLen) : LL w vo ls := by
  obtain ⟨h1, h2, h3, h4, h5⟩ := h
  exact ⟨vs, SL.own h3 hm, h5.1, fun i a b => SL.own (h5.2 i a b).1 (hm' _ (List.getElem_mem b))⟩
end Go.Proofs.Ytgheiadnjnnjfaa
