/- A range over a function, at the wide fence: an iterator that makes memory, and may turn what A lets it; its rounds keep what Kp says; it brings the list xs, or as much of it as is wanted. -/
import Derived.RangeFuncNested
import Derived.RangeFuncBound
import Derived.RangeFuncCalls
import Derived.RangeFuncLeaves
import Derived.Shelf.Abstract
import Derived.Shelf.RegionOpen
import Derived.WalkKit
import Derived.OwnWalkIn
import Derived.TacticsInMore
import Derived.LoopNIn
import Derived.LoopIn
import Derived.Test.YtjggklfegcejhaaGreatBase
import Derived.Test.YtjggklfegcejhaaGreatMem
namespace Go.Proofs.YtjggklfegcejhaaGreat
open Go.RowKit Go.Shelf
set_option linter.unusedVariables false
set_option linter.unusedSimpArgs false

theorem room_wideN (k : Nat) : Fence.wide.room k := fun d h => by simp [Fence.wide] at h
theorem RoundIn.wide {m m' : Nat} {P : Program} {l : Nat} {f : FuncId} {tmps : Array Value} {assign body : Code} {w : World} {R : Ending → World → Prop}
    (h : RoundIn Fence.wide m P l f tmps assign body w R) : RoundIn Fence.wide m' P l f tmps assign body w R := ⟨h.1, fun c cs _ => h.2 c cs (room_wideN _)⟩
theorem YieldAt.wide {m : Nat} (m' : Nat) {P : Program} {l : Nat} {args : Array Value} {W : World} {R : Ending → World → Prop} (h : YieldAt Fence.wide m P l args W R) : YieldAt Fence.wide m' P l args W R := by
  obtain ⟨fn, tmps, assign, body, hy, hR⟩ := h
  exact ⟨fn, tmps, assign, body, hy, RoundIn.wide hR⟩

/-- What a call of yield comes to, for one that is told what the rounds do: J holds between two of them, Jx behind one that has had enough. -/
def Rounds {α : Type} (P : Program) (l : Nat) (encs : α → Array Value) (Kp : World → World → Prop) (xs : List α) (J Jx : List α → World → Prop) : Prop :=
  ∀ m pre x W1, J pre W1 → (pre ++ [x]) <+: xs → YieldAt Fence.wide m P l (encs x) W1 fun e W' =>
    (e = .returned (.bool true) ∧ J (pre ++ [x]) W' ∧ Kp W1 W') ∨ (e = .returned (.bool false) ∧ Jx (pre ++ [x]) W')
/-- An iterator that brings xs. -/
def SeqA {α : Type} (P : Program) (g : Nat) (lb : Array Value) (encs : α → Array Value) (A Kp : World → World → Prop) (xs : List α) (w : World) : Prop :=
  ∀ (l : Nat) (J Jx : List α → World → Prop) (W : World), Below w.heap.size w W → (∀ s X Y, J s X → A X Y → J s Y) → (∀ s X Y, Jx s X → A X Y → Jx s Y) →
    Rounds P l encs Kp xs J Jx → J [] W →
    Calls P g (#[.func (.yield l) #[] #[]] ++ lb) W fun e W' => (∃ v, e = .returned v) ∧ (J xs W' ∨ ∃ pre, pre <+: xs ∧ Jx pre W')
/-- How a round's body may be left. -/
def endsA {α : Type} (B : Nat) (Kp : World → World → Prop) (I : List α → World → Prop) (Ix : Code → List α → World → Prop) (xs : List α) (W : World) : Exit → Act → World → Prop
  | .normal, _, W' => KeepsFrom B W W' ∧ Kp W W' ∧ I xs W'
  | .ret, _, W' => KeepsFrom B W W' ∧ Ix .ret xs W'
  | .exit id, _, W' => KeepsFrom B W W' ∧ Ix (.exit id) xs W'
  | .goto t, _, W' => KeepsFrom B W W' ∧ Ix (.goto t) xs W'
  | .panic _, _, _ => False
  | .outgrown, _, _ => False

theorem rangeA {α : Type} {P : Program} {n : Nat} {g : Operand} {ps : Array Tmp} {assign body : Code} {Q : Exit → Act → World → Prop} {a : Act} {w : World}
    {gf : Nat} {lb : Array Value} (hg : a.eval g = .func (.func gf) #[] lb) (eg : ∀ args w, (callFunc gf args).run P w = .ok (.enter gf args) w)
    {encs : α → Array Value} {A Kp : World → World → Prop} {xs : List α} {w0 : World} (hseq : SeqA P gf lb encs A Kp xs w0)
    (hA : ∀ X Y, A X Y → KeepsOthers X Y) (hKt : ∀ X Y Z, Kp X Y → Kp Y Z → Kp X Z)
    (hKb : ∀ (W : World) (l : Nat) (o o' : Obj), w.heap.size ≤ l → W.heap[l]? = some o → o.isCells = false → Kp W (W.putObj l o')) (hb0 : Below w0.heap.size w0 w) (hps : ∀ x, (encs x).size = ps.size)
    (I : List α → World → Prop) (Ix : Code → List α → World → Prop) (hI : OwnFrom w.heap.size I) (hIx : ∀ c, OwnFrom w.heap.size (Ix c))
    (hIA : ∀ s X Y, I s X → A X Y → I s Y) (hIxA : ∀ c s X Y, Ix c s X → A X Y → Ix c s Y) (h0 : I [] w) (a₁ : α → Act)
    (hassign : ∀ (l : Nat) (x : α) (W : World) (K : Act → World → Prop), K (a₁ x) W →
      assign.wpIn (Fence.wide.inRound l) (n - 1 - 1) P (Exit.then K (fun _ _ _ => False)) { tmps := (ps.zip (encs x)).foldl (fun t (p, v) => t.setIfInBounds p v) a.tmps, defers := [] } W)
    (hbody : ∀ (l : Nat) (pre : List α) (x : α) (W : World), I pre W → (pre ++ [x]) <+: xs → body.wpIn (Fence.wide.inRound l) (n - 1 - 1) P (endsA w.heap.size Kp I Ix (pre ++ [x]) W) (a₁ x) W)
    (hdone : ∀ (D : Nat) (W : World), w.heap.size ≤ D → I xs W → W.heap[D]? = some (.deferred (some [])) → Q .normal { a with defers := { target := .collected D, args := #[] } :: a.defers } W)
    (hstop : ∀ (D : Nat) (c : Code) (pre : List α) (W : World), w.heap.size ≤ D → pre <+: xs → Ix c pre W → W.heap[D]? = some (.deferred (some [])) → c.wpIn Fence.wide n P Q { a with defers := { target := .collected D, args := #[] } :: a.defers } W) :
    (Code.rangeFunc g ps assign body).wpIn Fence.wide n P Q a w := by
  refine wpIn_rangeFunc ?_
  intro fn hfn
  let R : LoopState → Option Code → Obj := fun st pe => .loop { state := st, pending := pe, fn, tmps := a.tmps, params := ps, assign, body, defers := w.heap.size }
  have hB : w.heap.size + 1 = (w.alloc (.deferred (some []))).heap.size := (World.size_alloc _ _).symm
  let W1 := (w.alloc (.deferred (some []))).alloc (R .ready none)
  have z1 : W1.heap.size = w.heap.size + 2 := by show ((w.alloc _).alloc _).heap.size = _; rw [World.size_alloc, World.size_alloc]
  have hL1 : W1.heap[w.heap.size + 1]? = some (R .ready none) := by rw [hB]; exact World.alloc_heap_new _ _
  have hK1 : W1.heap[w.heap.size]? = some (.deferred (some [])) := (Below.heap_alloc _ _ _ (by rw [World.size_alloc]; omega)).trans (World.alloc_heap_new w _)
  have hb1 : Below w0.heap.size w0 W1 := hb0.trans ((((Below.refl _ w).alloc (Nat.le_refl _) _).alloc (by simp) _).mono hb0.size)
  refine ⟨w.heap.size + 1, [{ target := .collected w.heap.size, args := #[] }], W1, { target := .fn (.func gf) lb, args := #[.func (.yield (w.heap.size + 1)) #[] #[]] }, W1, gf,
    #[.func (.yield (w.heap.size + 1)) #[] #[]] ++ lb, W1, run_enterLoop_outer _ _ _ _ _, ?_, fun _ _ => trivial, ?_, fun h => by simp [Fence.wide] at h, callsIn_wide.2 ?_⟩
  · simp only [resolve, hg]
    simp [go_sem]
  · simp [invoke, go_sem, eg]
  · -- what the law keeps beside I: the record, and the block for the rounds' deferred calls
    refine (hseq (w.heap.size + 1) (fun s W => I s W ∧ W.heap[w.heap.size + 1]? = some (R .ready none) ∧ W.heap[w.heap.size]? = some (.deferred (some [])))
      (fun s W => ∃ c, Ix c s W ∧ W.heap[w.heap.size + 1]? = some (R .done (some c)) ∧ W.heap[w.heap.size]? = some (.deferred (some []))) W1 hb1
      (fun s X Y h hx => ⟨hIA s X Y h.1 hx, (hA X Y hx).same _ _ h.2.1 rfl, (hA X Y hx).same _ _ h.2.2 rfl⟩)
      (fun s X Y h hx => by
        obtain ⟨c, h1, h2, h3⟩ := h
        exact ⟨c, hIxA c s X Y h1 hx, (hA X Y hx).same _ _ h2 rfl, (hA X Y hx).same _ _ h3 rfl⟩)
      ?_ ⟨hI.alloc _ (hI.alloc _ h0), hL1, hK1⟩).mono ?_
    · rintro m pre x W ⟨hi, hl, hk⟩ hpx
      have hlt : w.heap.size + 1 < W.heap.size := (Array.getElem?_eq_some_iff.1 hl).1
      refine YieldAt.wide (m := n - 1 - 1) m ⟨fn, _, assign, body, run_yield hl (hps x), roundIn_of_wpIn hfn (hassign _ x W _ ⟨_, run_beginRound hl rfl, ?_⟩)⟩
      let V := W.putObj (w.heap.size + 1) (R .busy none)
      have hl2 : V.heap[w.heap.size + 1]? = some (R .busy none) := World.putObj_heap_same hlt
      have hk2 : V.heap[w.heap.size]? = some (.deferred (some [])) := (World.putObj_heap_other (by omega)).trans hk
      have kw : Kp W V := hKb _ _ _ _ (by omega) hl rfl
      refine wpIn_mono (hbody _ pre x V (hI.putObj _ hi (by omega) hl rfl) hpx) ?_
      have fin : ∀ (jump : Option Code) (W3 : World), KeepsFrom w.heap.size V W3 →
          (Instr.endRound (w.heap.size + 1) jump).run P W3 = .ok (.bool jump.isNone) (W3.putObj (w.heap.size + 1) (R (if jump.isNone then .ready else .done) jump)) ∧
          W3.heap[w.heap.size + 1]? = some (R .busy none) ∧
          (W3.putObj (w.heap.size + 1) (R (if jump.isNone then .ready else .done) jump)).heap[w.heap.size + 1]? = some (R (if jump.isNone then .ready else .done) jump) ∧
          (W3.putObj (w.heap.size + 1) (R (if jump.isNone then .ready else .done) jump)).heap[w.heap.size]? = some (.deferred (some [])) := fun jump W3 h => by
        have l3 := h.same _ _ (by omega) hl2 rfl
        exact ⟨run_endRound jump l3, l3, World.putObj_heap_same (Array.getElem?_eq_some_iff.1 l3).1, (World.putObj_heap_other (by omega)).trans (h.same _ _ (Nat.le_refl _) hk2 rfl)⟩
      have out : ∀ (c : Code) (W3 : World), KeepsFrom w.heap.size V W3 → Ix c (pre ++ [x]) W3 → ∃ v w', (Instr.endRound (w.heap.size + 1) (some c)).run P W3 = .ok v w' ∧
          ((Ending.returned v = .returned (.bool true) ∧ (I (pre ++ [x]) w' ∧ w'.heap[w.heap.size + 1]? = some (R .ready none) ∧ w'.heap[w.heap.size]? = some (.deferred (some []))) ∧ Kp W w') ∨
           (Ending.returned v = .returned (.bool false) ∧ ∃ c, Ix c (pre ++ [x]) w' ∧ w'.heap[w.heap.size + 1]? = some (R .done (some c)) ∧ w'.heap[w.heap.size]? = some (.deferred (some [])))) := fun c W3 h hx => by
        obtain ⟨r1, l3, l4, k4⟩ := fin (some c) W3 h
        exact ⟨_, _, r1, .inr ⟨rfl, c, (hIx c).putObj _ hx (by omega) l3 rfl, l4, k4⟩⟩
      rintro e a3 W3 hp
      cases e with
      | normal =>
        obtain ⟨h, kp, hi3⟩ := hp
        obtain ⟨r1, l3, l4, k4⟩ := fin none W3 h
        exact ⟨_, _, r1, .inl ⟨rfl, ⟨hI.putObj _ hi3 (by omega) l3 rfl, l4, k4⟩, hKt _ _ _ (hKt _ _ _ kw kp) (hKb _ _ _ _ (by omega) l3 rfl)⟩⟩
      | ret => exact out _ _ hp.1 hp.2
      | exit id => exact out _ _ hp.1 hp.2
      | goto t => exact out _ _ hp.1 hp.2
      | panic ch => exact hp.elim
      | outgrown => exact hp.elim
    · rintro e W2 ⟨⟨v, rfl⟩, (⟨hi, hl, hk⟩ | ⟨pre, hpx, c, hi, hl, hk⟩)⟩
      · exact ⟨none, _, run_endLoop hl (by simp), hdone _ _ (Nat.le_refl _) (hI.putObj _ hi (by omega) hl rfl) ((World.putObj_heap_other (by omega)).trans hk)⟩
      · exact ⟨some c, _, run_endLoop hl (by simp), hstop _ c pre _ (Nat.le_refl _) hpx ((hIx c).putObj _ hi (by omega) hl rfl) ((World.putObj_heap_other (by omega)).trans hk)⟩
/-- What an iterator does that makes memory alone. -/
def Makes (X Y : World) : Prop := Below X.heap.size X Y
theorem Makes.others {X Y : World} (h : Makes X Y) : KeepsOthers X Y := KeepsOthers.of_grownBy (row := none) (gr_below h) (fun j o e => by cases e)
end Go.Proofs.YtjggklfegcejhaaGreat
