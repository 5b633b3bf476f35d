/- A region that draws its order: first some reads that give fixed values in every world of a sort; then operations, each of which comes up alone once these are through, and which stay in the sort as long as a read may still be out; then the rest, which waits for all of these.; A region that draws its order: taken in an order of one's own: reads that give fixed values in every world of a sort, whenev -/
import Derived.Test.YtjggklfegcejhaaGreatTail
import Derived.Deep.AppendLies
namespace Go.Proofs.YtjggklfegcejhaaGreat
open Go.RowKit Go.PlainAid
set_option linter.unusedVariables false
set_option linter.unusedSimpArgs false

section
variable {P : Program} {ops : Array Oper} {S : World → Prop} {md : Region.Mode}
/-- What a run of one operation comes to. -/
def mixUpon (P : Program) (S : World → Prop) (K : Value → World → Prop) : Result Next → Prop
  | .ok (.value u) w' => S w' ∧ K u w'
  | .ok .skip w' => S w' ∧ K undef w'
  | .ok (.enter f args) w' => Calls P f args w' (fun e w'' => ∃ u, e = .returned u ∧ S w'' ∧ K u w'')
  | _ => False
def GivesM (P : Program) (ops : Array Oper) (S : World → Prop) (o : Oper) (a : Act) (w : World) (K : Value → World → Prop) : Prop :=
  (Region.wanted o (yielded ops a.tmps) = true ∧ mixUpon P S K ((execOp a.eval o).run P w)) ∨ (Region.wanted o (yielded ops a.tmps) = false ∧ S w ∧ K undef w)
theorem mixUpon.mono {K K' : Value → World → Prop} (h : ∀ u w', S w' → K u w' → K' u w') {r : Result Next} (hr : mixUpon P S K r) : mixUpon P S K' r := by
  cases r with
  | ok nx w' =>
    cases nx <;> simp only [mixUpon] at hr ⊢
    case value u => exact ⟨hr.1, h _ _ hr.1 hr.2⟩
    case skip => exact ⟨hr.1, h _ _ hr.1 hr.2⟩
    case enter f args => exact Calls.mono hr fun e w'' ⟨u, h1, h2, h3⟩ => ⟨u, h1, h2, h _ _ h2 h3⟩
  | halt x w' => simp only [mixUpon] at hr
theorem GivesM.mono {o : Oper} {a : Act} {w : World} {K K' : Value → World → Prop} (h : ∀ u w', S w' → K u w' → K' u w') (hr : GivesM P ops S o a w K) : GivesM P ops S o a w K' :=
  hr.elim (fun ⟨h1, h2⟩ => .inl ⟨h1, h2.mono h⟩) (fun ⟨h1, h2, h3⟩ => .inr ⟨h1, h2, h _ _ h2 h3⟩)
theorem GivesM.same {o : Oper} {a a' : Act} {w : World} {K : Value → World → Prop} (h : GivesM P ops S o a w K) (he : execOp a'.eval o = execOp a.eval o)
    (hw : Region.wanted o (yielded ops a'.tmps) = Region.wanted o (yielded ops a.tmps)) : GivesM P ops S o a' w K := by
  unfold GivesM at *; rw [he, hw]; exact h
/-- At a, o gives v in each world of the sort, which it leaves as it is; or it is not wanted. -/
def ReadsAt (P : Program) (ops : Array Oper) (S : World → Prop) (o : Oper) (v : Value) (a : Act) : Prop :=
  (Region.wanted o (yielded ops a.tmps) = true ∧ ∀ w, S w → (execOp a.eval o).run P w = .ok (.value v) w) ∨ (Region.wanted o (yielded ops a.tmps) = false ∧ v = undef)
theorem ReadsAt.same {o : Oper} {v : Value} {a a' : Act} (h : ReadsAt P ops S o v a) (he : execOp a'.eval o = execOp a.eval o)
    (hw : Region.wanted o (yielded ops a'.tmps) = Region.wanted o (yielded ops a.tmps)) : ReadsAt P ops S o v a' := by
  unfold ReadsAt at *; rw [he, hw]; exact h
theorem ReadsAt.gives {o : Oper} {v : Value} {a : Act} {w : World} {K : Value → World → Prop} (h : ReadsAt P ops S o v a) (hS : S w) (hK : K v w) : GivesM P ops S o a w K := by
  rcases h with ⟨h1, h2⟩ | ⟨h1, rfl⟩
  · exact .inl ⟨h1, by rw [h2 w hS]; exact ⟨hS, hK⟩⟩
  · exact .inr ⟨h1, hS, hK⟩
def anyM (P : Program) (md : Region.Mode) (ops : Array Oper) (S : World → Prop) (m : Nat) (L : Array Bool → Act → World → Prop) : Nat → Array Bool → Act → World → Prop
  | 0, listed, a, w => L listed a w
  | f + 1, listed, a, w => Region.ready md ops listed ≠ [] ∧ ∀ j ∈ Region.ready md ops listed, j < m ∧ ∃ o, ops[j]? = some o ∧ GivesM P ops S o a w (fun u w' => anyM P md ops S m L f (listed.setIfInBounds j true) (a.put o.dst u) w')
theorem anyM_sound {m g : Nat} {L : Array Bool → Act → World → Prop} {Q : Exit → Act → World → Prop} (hL : ∀ listed a w, L listed a w → wpAny P md ops Q g listed a w) :
    ∀ (f : Nat) (listed : Array Bool) (a : Act) (w : World), anyM P md ops S m L f listed a w → wpAny P md ops Q (f + g) listed a w
  | 0, listed, a, w, h => by rw [Nat.zero_add]; exact hL _ _ _ h
  | f + 1, listed, a, w, h => by
    rw [show f + 1 + g = (f + g) + 1 by omega]
    refine ⟨fun h0 => absurd h0 h.1, fun j hj => ?_⟩
    obtain ⟨_, o, ho, hg⟩ := h.2 j hj
    unfold wpOp
    simp only [ho]
    rcases hg with ⟨hw, hv⟩ | ⟨hw, hS, hn⟩
    · simp only [hw, if_true]
      refine .inl ?_
      unfold Oper.wp
      generalize (execOp a.eval o).run P w = r at *
      cases r with
      | ok nx w' =>
        cases nx <;> simp only [mixUpon] at hv <;> simp only [Oper.upon]
        case value u => exact anyM_sound hL f _ _ w' hv.2
        case skip => exact anyM_sound hL f _ _ w' hv.2
        case enter f' args => exact hv.mono fun e w'' ⟨u, he, _, hn⟩ => by subst he; exact anyM_sound hL f _ _ w'' hn
      | halt x w' => simp only [mixUpon] at hv
    · simp only [hw, Bool.false_eq_true, if_false]
      exact anyM_sound hL f _ _ w hn
theorem anyM_first {m i : Nat} {oi : Oper} {v : Value} {L : Array Bool → Act → World → Prop} (hi : ops[i]? = some oi) (hsel : ∀ (j : Nat) (o : Oper) cs b, ops[j]? = some o → o.op ≠ .select cs b)
    (hs : Region.sinkB md ops m = true) (hc : Region.chainB md ops m = true) (hm : m < ops.size) (him : i < m)
    (hdone : ∀ listed a w, L listed a w → ∀ j ∈ Region.ready md ops listed, m ≤ j) :
    ∀ (f : Nat) (listed : Array Bool) (a : Act) (w : World), HeadInv md ops m listed →
      (∀ j oj, ops[j]? = some oj → j ≠ i → listed.getD j true = false → (∀ e ∈ oj.after, Region.binds md e = true → e.on ≠ i) → oi.apart ops oj = true) →
      i ∈ Region.ready md ops listed → ReadsAt P ops S oi v a → S w →
      anyM P md ops S m L f (listed.setIfInBounds i true) (a.put oi.dst v) w → anyM P md ops S m L (f + 1) listed a w := by
  intro f
  induction f with
  | zero =>
    intro listed a w inv _ hr hy hS H
    have hun := (mem_ready.1 hr).1
    refine ⟨fun h => (by rw [h] at hr; cases hr), fun j hj => ?_⟩
    have hjm : j < m := by
      rcases Nat.lt_or_ge j m with h | h
      · exact h
      · exact absurd hj (tail_waits hs hc hm inv _ i rfl him hun j h)
    refine ⟨hjm, ?_⟩
    by_cases hji : j = i
    · subst hji; exact ⟨oi, hi, hy.gives hS H⟩
    · have := hdone _ _ _ H j (ready_mono hj hji)
      omega
  | succ f ih =>
    intro listed a w inv hfree hr hy hS H
    have hun := (mem_ready.1 hr).1
    refine ⟨fun h => (by rw [h] at hr; cases hr), fun j hj => ?_⟩
    have hjm : j < m := by
      rcases Nat.lt_or_ge j m with h | h
      · exact h
      · exact absurd hj (tail_waits hs hc hm inv _ i rfl him hun j h)
    refine ⟨hjm, ?_⟩
    by_cases hji : j = i
    · subst hji; exact ⟨oi, hi, hy.gives hS H⟩
    · obtain ⟨_, oj', hoj', hgj⟩ := H.2 j (ready_mono hj hji)
      obtain ⟨hjun, oj, hoj, hall⟩ := mem_ready.1 hj
      obtain rfl : oj' = oj := by rw [hoj] at hoj'; exact (Option.some.inj hoj').symm
      have hnot : ∀ e ∈ oj'.after, Region.binds md e = true → e.on ≠ i := fun e he hb heq => by
        have h1 := hall e he hb
        rw [heq, getD_both hun] at h1
        cases h1
      obtain ⟨a1, a2, a3⟩ := Oper.apart_spec (hfree j oj' hoj hji hjun hnot)
      refine ⟨oj', hoj, (hgj.same (execOp_put oj' (fun cs b => hsel j oj' cs b hoj) a oi.dst v a1).symm (wanted_put oj' a oi.dst v a1).symm).mono fun u w' hS' hnx => ?_⟩
      refine ih _ _ w' (inv.set hj hjm) (fun k ok hk hki hun' hno => hfree k ok hk hki ?_ hno) (ready_mono hr (Ne.symm hji)) (hy.same (execOp_put oi (fun cs b => hsel i oi cs b hi) a oj'.dst u a3) (wanted_put oi a oj'.dst u a3)) hS' ?_
      · by_cases hjk : j = k
        · subst hjk; exact hjun
        · rw [getD_set_ne true hjk] at hun'; exact hun'
      · rw [Array.setIfInBounds_comm _ _ hji, ← Act.put_comm a v u a2]
        exact hnx
/-- The operations in the middle, one behind the other. -/
def inSeq (P : Program) (ops : Array Oper) (S : World → Prop) (K : Act → World → Prop) : List Oper → Act → World → Prop
  | [], a, w => K a w
  | o :: l, a, w => GivesM P ops S o a w (fun u w' => inSeq P ops S K l (a.put o.dst u) w')
/-- The reads. -/
def inRead (P : Program) (ops : Array Oper) (S : World → Prop) (K : Act → Prop) : List Oper → Act → Prop
  | [], a => K a
  | o :: l, a => ∃ v, ReadsAt P ops S o v a ∧ inRead P ops S K l (a.put o.dst v)
theorem anyM_seq {m g : Nat} {Lq : Act → World → Prop} (hm : m < ops.size) :
    ∀ (l : List Oper) (k : Nat) (listed : Array Bool) (a : Act) (w : World), (∀ j, j < l.length → l[j]? = ops[k + j]?) → k + l.length = m →
    Region.seqB md ops (l.length + g) k listed = true → inSeq P ops S Lq l a w →
    anyM P md ops S m (fun listed' a' w' => Region.seqB md ops g m listed' = true ∧ Lq a' w') l.length listed a w
  | [], k, listed, a, w, _, hk, hB, h => by
    have : k = m := by simpa using hk
    subst this
    exact ⟨by simpa using hB, h⟩
  | o :: l, k, listed, a, w, hl, hk, hB, h => by
    have h0 : ops[k]? = some o := by simpa using (hl 0 (by simp)).symm
    rw [show (o :: l).length + g = (l.length + g) + 1 by simp only [List.length_cons]; omega] at hB
    simp only [Region.seqB, Bool.and_eq_true, decide_eq_true_eq] at hB
    have hkm : k < m := by simp only [List.length_cons] at hk; omega
    refine ⟨by rw [hB.1]; simp, fun j hj => ?_⟩
    have hjk : j = k := by rw [hB.1] at hj; simpa using hj
    subst hjk
    refine ⟨hkm, o, h0, GivesM.mono (fun u w' _ hn => ?_) h⟩
    exact anyM_seq hm l (j + 1) _ _ w' (fun i hi => by have := hl (i + 1) (by simp; omega); simpa [Nat.add_assoc, Nat.add_comm 1 i] using this) (by simp only [List.length_cons] at hk; omega) hB.2 hn
theorem anyM_read {m g : Nat} {L2 : List Oper} {Lq : Act → World → Prop} {w : World} (hsel : Region.noSelect ops = true) (hs : Region.sinkB md ops m = true) (hc : Region.chainB md ops m = true) (hm : m < ops.size) (hS : S w) :
    ∀ (l : List Oper) (k : Nat) (listed : Array Bool) (a : Act), (∀ j, j < l.length → l[j]? = ops[k + j]?) → (∀ j, j < L2.length → L2[j]? = ops[k + l.length + j]?) → k + l.length + L2.length = m → HeadInv md ops m listed →
    Region.lexHead md ops (L2.length + g) l.length k listed = true → inRead P ops S (fun a' => inSeq P ops S Lq L2 a' w) l a →
    anyM P md ops S m (fun listed' a' w' => Region.seqB md ops g m listed' = true ∧ Lq a' w') (l.length + L2.length) listed a w
  | [], k, listed, a, _, hl2, hk, _, hB, h => by
    rw [List.length_nil, Nat.zero_add]
    exact anyM_seq hm L2 k listed a w (fun j hj => by have := hl2 j hj; simpa using this) (by simpa using hk) (by simpa [Region.lexHead] using hB) h
  | o :: l, k, listed, a, hl, hl2, hk, inv, hB, h => by
    have h0 : ops[k]? = some o := by simpa using (hl 0 (by simp)).symm
    simp only [List.length_cons, Region.lexHead, Bool.and_eq_true] at hB
    obtain ⟨⟨hr, hf⟩, hB'⟩ := hB
    have hkm : k < m := by simp only [List.length_cons] at hk; omega
    have hr' : k ∈ Region.ready md ops listed := by simpa using hr
    obtain ⟨v, hy, hK⟩ := h
    rw [show (o :: l).length + L2.length = (l.length + L2.length) + 1 by simp only [List.length_cons]; omega]
    exact anyM_first h0 (Region.noSelect_spec hsel) hs hc hm hkm (fun listed' a' w' hL => seqB_ready hL.1) (l.length + L2.length) listed a w inv (Region.free_spec h0 hf) hr' hy hS
      (anyM_read hsel hs hc hm hS l (k + 1) _ _ (fun j hj => by have := hl (j + 1) (by simp; omega); simpa [Nat.add_assoc, Nat.add_comm 1 j] using this)
        (fun j hj => by have := hl2 j hj; simp only [List.length_cons] at this; rw [this]; congr 1; omega) (by simp only [List.length_cons] at hk; omega) (inv.set hr' hkm) hB' hK)
/-- What is to be looked at, once. -/
def mixB (l : List Oper) (n m : Nat) : Bool := Region.noSelect l.toArray && decide (n ≤ m ∧ m < l.length) && Region.sinkB .any l.toArray m && Region.chainB .any l.toArray m && Region.lexHead .any l.toArray ((m - n) + (l.length - m)) n 0 (Array.replicate l.length false)
/-- The law: n reads; from the n-th to the m-th one behind the other, in worlds of the sort; the rest. -/
theorem region_mix {id : Nat} {Q : Exit → Act → World → Prop} {a : Act} {w : World} {l : List Oper} (n m : Nat) (S : World → Prop) (hm : P.follows .mixedOrders = true) (hB : mixB l n m = true) (hS : S w.drew)
    (h : ∀ K : Act → World → Prop, Hid (∀ a' w', wpList P l.toArray Q (l.drop m) a' w' → K a' w') → let OPS := l.toArray; inRead P OPS S (fun a' => inSeq P OPS S K ((l.drop n).take (m - n)) a' w.drew) (l.take n) a) : (Code.region id l.toArray true).wp P Q a w := by
  unfold mixB at hB
  simp only [Bool.and_eq_true, decide_eq_true_eq] at hB
  obtain ⟨⟨⟨⟨hsel, hn, hml⟩, hs⟩, hc⟩, hlex⟩ := hB
  have htl : (l.take n).length = n := by simp; omega
  have hml2 : ((l.drop n).take (m - n)).length = m - n := by simp; omega
  have hdl : (l.drop m).length = l.length - m := by simp
  have inv0 : HeadInv .any l.toArray m (Array.replicate l.length false) :=
    ⟨by simp, fun j oj _ hl => (by rw [getD_replicate_false] at hl; cases hl), fun t _ ht => getD_in (by simpa using ht) (getD_replicate_false _ _)⟩
  have H := anyM_read (P := P) (S := S) (md := .any) (g := l.length - m) (L2 := (l.drop n).take (m - n)) (m := m) (w := w.drew) (Lq := fun a' w' => wpList P l.toArray Q (l.drop m) a' w') hsel hs hc (by simpa using hml) hS (l.take n) 0 (Array.replicate l.length false) a
    (fun j hj => by rw [htl] at hj; simp [hj])
    (fun j hj => by rw [hml2] at hj; simp [htl, hj, List.getElem?_drop]) (by rw [htl, hml2]; omega) inv0 (by rw [htl, hml2]; exact hlex) (h _ (Lib.hid fun _ _ h => h))
  refine wp_region_any hm ?_
  have := anyM_sound (P := P) (S := S) (Q := Q) (g := l.length - m) (fun listed a' w' hL => by
    have := wpAny_of_seq (md := .any) (Q' := Q) (l.drop m) m listed a' w' (fun j => by simp [List.getElem?_drop]) (by rw [hdl]; exact hL.1) hL.2
    rwa [hdl] at this) _ _ _ _ H
  rw [htl, hml2, show n + (m - n) + (l.length - m) = l.toArray.size by simp; omega] at this
  simpa using this
theorem inRead_nil {a : Act} {K : Act → Prop} (h : K a) : inRead P ops S K [] a := h
theorem inRead_val {o : Oper} {l : List Oper} {v : Value} {a a' : Act} {K : Act → Prop} (hw : Region.wanted o (yielded ops a.tmps) = true) (hv : ∀ w, S w → (execOp a.eval o).run P w = .ok (.value v) w) (ha : a.put o.dst v = a') (h : inRead P ops S K l a') : inRead P ops S K (o :: l) a :=
  ⟨v, .inl ⟨hw, hv⟩, by rw [ha]; exact h⟩
theorem inRead_skip {o : Oper} {l : List Oper} {a a' : Act} {K : Act → Prop} (hw : Region.wanted o (yielded ops a.tmps) = false) (ha : a.put o.dst undef = a') (h : inRead P ops S K l a') : inRead P ops S K (o :: l) a :=
  ⟨undef, .inr ⟨hw, rfl⟩, by rw [ha]; exact h⟩
theorem inSeq_nil {a : Act} {w : World} {K : Act → World → Prop} (h : K a w) : inSeq P ops S K [] a w := h
theorem inSeq_val {o : Oper} {l : List Oper} {v : Value} {a a' : Act} {w w' : World} {K : Act → World → Prop} (hw : Region.wanted o (yielded ops a.tmps) = true) (hv : (execOp a.eval o).run P w = .ok (.value v) w') (hS : S w') (ha : a.put o.dst v = a') (h : inSeq P ops S K l a' w') : inSeq P ops S K (o :: l) a w :=
  .inl ⟨hw, by rw [hv]; exact ⟨hS, by subst ha; exact h⟩⟩
theorem inSeq_call {o : Oper} {l : List Oper} {f : _} {args : _} {a : Act} {w : World} {K : Act → World → Prop} (hw : Region.wanted o (yielded ops a.tmps) = true) (hv : (execOp a.eval o).run P w = .ok (.enter f args) w)
    (hc : Calls P f args w (fun e w'' => ∃ u, e = .returned u ∧ S w'' ∧ inSeq P ops S K l (a.put o.dst u) w'')) : inSeq P ops S K (o :: l) a w :=
  .inl ⟨hw, by rw [hv]; exact hc⟩
end
end Go.Proofs.YtjggklfegcejhaaGreat
namespace Go.Proofs.YtjggklfegcejhaaGreat
open Go.RowKit Go.PlainAid
set_option linter.unusedVariables false
set_option linter.unusedSimpArgs false

section
variable {P : Program} {ops : Array Oper} {S : World → Prop} {md : Region.Mode}
theorem anyM_free {i : Nat} {oi : Oper} {v : Value} {L : Array Bool → Act → World → Prop} (hi : ops[i]? = some oi) (hsel : ∀ (j : Nat) (o : Oper) cs b, ops[j]? = some o → o.op ≠ .select cs b)
    (hdone : ∀ listed a w, L listed a w → Region.ready md ops listed = []) :
    ∀ (f : Nat) (listed : Array Bool) (a : Act) (w : World),
      (∀ j oj, ops[j]? = some oj → j ≠ i → listed.getD j true = false → (∀ e ∈ oj.after, Region.binds md e = true → e.on ≠ i) → oi.apart ops oj = true) →
      i ∈ Region.ready md ops listed → ReadsAt P ops S oi v a → S w →
      anyM P md ops S ops.size L f (listed.setIfInBounds i true) (a.put oi.dst v) w → anyM P md ops S ops.size L (f + 1) listed a w := by
  intro f
  induction f with
  | zero =>
    intro listed a w _ hr hy hS H
    refine ⟨fun h => (by rw [h] at hr; cases hr), fun j hj => ?_⟩
    obtain ⟨_, oj, hoj, _⟩ := mem_ready.1 hj
    refine ⟨(Array.getElem?_eq_some_iff.1 hoj).1, ?_⟩
    by_cases hji : j = i
    · subst hji; exact ⟨oi, hi, hy.gives hS H⟩
    · have h1 := ready_mono hj hji
      rw [hdone _ _ _ H] at h1
      cases h1
  | succ f ih =>
    intro listed a w hfree hr hy hS H
    have hun := (mem_ready.1 hr).1
    refine ⟨fun h => (by rw [h] at hr; cases hr), fun j hj => ?_⟩
    obtain ⟨hjun, oj, hoj, hall⟩ := mem_ready.1 hj
    refine ⟨(Array.getElem?_eq_some_iff.1 hoj).1, ?_⟩
    by_cases hji : j = i
    · subst hji; exact ⟨oi, hi, hy.gives hS H⟩
    · obtain ⟨_, oj', hoj', hgj⟩ := H.2 j (ready_mono hj hji)
      obtain rfl : oj' = oj := by rw [hoj] at hoj'; exact (Option.some.inj hoj').symm
      have hnot : ∀ e ∈ oj'.after, Region.binds md e = true → e.on ≠ i := fun e he hb heq => by
        have h1 := hall e he hb
        rw [heq, getD_both hun] at h1
        cases h1
      obtain ⟨a1, a2, a3⟩ := Oper.apart_spec (hfree j oj' hoj hji hjun hnot)
      refine ⟨oj', hoj, (hgj.same (execOp_put oj' (fun cs b => hsel j oj' cs b hoj) a oi.dst v a1).symm (wanted_put oj' a oi.dst v a1).symm).mono fun u w' hS' hnx => ?_⟩
      refine ih _ _ w' (fun k ok hk hki hun' hno => hfree k ok hk hki ?_ hno) (ready_mono hr (Ne.symm hji)) (hy.same (execOp_put oi (fun cs b => hsel i oi cs b hi) a oj'.dst u a3) (wanted_put oi a oj'.dst u a3)) hS' ?_
      · by_cases hjk : j = k
        · subst hjk; exact hjun
        · rw [getD_set_ne true hjk] at hun'; exact hun'
      · rw [Array.setIfInBounds_comm _ _ hji, ← Act.put_comm a v u a2]
        exact hnx
/-- In an order of one's own: true: a read. -/
def inOrd (P : Program) (ops : Array Oper) (S : World → Prop) (K : Act → World → Prop) : List (Nat × Bool) → Act → World → Prop
  | [], a, w => K a w
  | (i, true) :: l, a, w => ∃ o v, ops[i]? = some o ∧ ReadsAt P ops S o v a ∧ inOrd P ops S K l (a.put o.dst v) w
  | (i, false) :: l, a, w => ∃ o, ops[i]? = some o ∧ GivesM P ops S o a w (fun u w' => inOrd P ops S K l (a.put o.dst u) w')
/-- What is to be looked at, once. -/
def ordB (md : Region.Mode) (ops : Array Oper) : List (Nat × Bool) → Array Bool → Bool
  | [], listed => (Region.ready md ops listed).isEmpty
  | (i, true) :: l, listed => (Region.ready md ops listed).contains i && Region.free md ops listed i && ordB md ops l (listed.setIfInBounds i true)
  | (i, false) :: l, listed => decide (Region.ready md ops listed = [i]) && ordB md ops l (listed.setIfInBounds i true)
theorem anyM_ord {K : Act → World → Prop} (hsel : Region.noSelect ops = true) : ∀ (l : List (Nat × Bool)) (listed : Array Bool) (a : Act) (w : World), ordB md ops l listed = true → S w → inOrd P ops S K l a w →
    anyM P md ops S ops.size (fun listed' a' w' => Region.ready md ops listed' = [] ∧ K a' w') l.length listed a w
  | [], listed, a, w, hB, _, h => ⟨by simpa [ordB, List.isEmpty_iff] using hB, h⟩
  | (i, true) :: l, listed, a, w, hB, hS, h => by
    simp only [ordB, Bool.and_eq_true] at hB
    obtain ⟨⟨hr, hf⟩, hB'⟩ := hB
    obtain ⟨o, v, ho, hy, hK⟩ := h
    exact anyM_free ho (Region.noSelect_spec hsel) (fun _ _ _ h => h.1) l.length listed a w (Region.free_spec ho hf) (by simpa using hr) hy hS (anyM_ord hsel l _ _ w hB' hS hK)
  | (i, false) :: l, listed, a, w, hB, hS, h => by
    simp only [ordB, Bool.and_eq_true, decide_eq_true_eq] at hB
    obtain ⟨o, ho, hg⟩ := h
    refine ⟨by rw [hB.1]; simp, fun j hj => ?_⟩
    have hji : j = i := by rw [hB.1] at hj; simpa using hj
    subst hji
    exact ⟨(Array.getElem?_eq_some_iff.1 ho).1, o, ho, GivesM.mono (fun u w' hS' hn => anyM_ord hsel l _ _ w' hB.2 hS' hn) hg⟩
/-- The same, the operations written out. -/
def inOrdL (P : Program) (ops : Array Oper) (S : World → Prop) (K : Act → World → Prop) : List (Option Oper × Bool) → Act → World → Prop
  | [], a, w => K a w
  | (some o, true) :: l, a, w => ∃ v, ReadsAt P ops S o v a ∧ inOrdL P ops S K l (a.put o.dst v) w
  | (some o, false) :: l, a, w => GivesM P ops S o a w (fun u w' => inOrdL P ops S K l (a.put o.dst u) w')
  | (none, _) :: _, _, _ => False
theorem inOrdL_of {K : Act → World → Prop} {L : List Oper} : ∀ (rs : List (Nat × Bool)) (a : Act) (w : World), inOrdL P L.toArray S K (rs.map fun p => (L[p.1]?, p.2)) a w → inOrd P L.toArray S K rs a w
  | [], _, _, h => h
  | (i, true) :: rs, a, w, h => by
    cases ho : L[i]? with
    | none => simp only [List.map_cons, ho, inOrdL] at h
    | some o =>
      simp only [List.map_cons, ho, inOrdL] at h
      obtain ⟨v, hy, hK⟩ := h
      exact ⟨o, v, by simpa using ho, hy, inOrdL_of rs _ _ hK⟩
  | (i, false) :: rs, a, w, h => by
    cases ho : L[i]? with
    | none => simp only [List.map_cons, ho, inOrdL] at h
    | some o =>
      simp only [List.map_cons, ho, inOrdL] at h
      exact ⟨o, by simpa using ho, GivesM.mono (fun u w' _ hK => inOrdL_of rs _ _ hK) h⟩
/-- The law. -/
theorem region_ord {id : Nat} {Q : Exit → Act → World → Prop} {a : Act} {w : World} {l : List Oper} (rs : List (Nat × Bool)) (S : World → Prop) (hm : P.follows .mixedOrders = true)
    (hB : (Region.noSelect l.toArray && (rs.length == l.length) && ordB .any l.toArray rs (Array.replicate l.length false)) = true) (hS : S w.drew)
    (h : ∀ K : Act → World → Prop, Hid (∀ a' w', Q .normal a' w' → K a' w') → let OPS := l.toArray; inOrdL P OPS S K (rs.map fun p => (l[p.1]?, p.2)) a w.drew) : (Code.region id l.toArray true).wp P Q a w := by
  simp only [Bool.and_eq_true, beq_iff_eq] at hB
  obtain ⟨⟨hsel, hln⟩, ho⟩ := hB
  refine wp_region_any hm ?_
  have H := anyM_ord (P := P) (S := S) (md := .any) (K := fun a' w' => Q .normal a' w') hsel rs (Array.replicate l.length false) a w.drew ho hS (inOrdL_of rs a w.drew (h _ (Lib.hid fun _ _ h => h)))
  have := anyM_sound (P := P) (S := S) (Q := Q) (g := 0) (fun listed a' w' hL => ⟨hL.1, hL.2⟩) _ _ _ _ H
  rw [Nat.add_zero, hln] at this
  simpa using this
theorem inOrd_nil {K : Act → World → Prop} {a : Act} {w : World} (h : K a w) : inOrdL P ops S K [] a w := h
theorem inOrd_read {K : Act → World → Prop} {o : Oper} {l : List (Option Oper × Bool)} {v : Value} {a a' : Act} {w : World} (hw : Region.wanted o (yielded ops a.tmps) = true) (hv : ∀ w, S w → (execOp a.eval o).run P w = .ok (.value v) w) (ha : a.put o.dst v = a') (h : inOrdL P ops S K l a' w) : inOrdL P ops S K ((some o, true) :: l) a w :=
  ⟨v, .inl ⟨hw, hv⟩, by rw [ha]; exact h⟩
theorem inOrd_val {K : Act → World → Prop} {o : Oper} {l : List (Option Oper × Bool)} {v : Value} {a a' : Act} {w w' : World} (hw : Region.wanted o (yielded ops a.tmps) = true) (hv : (execOp a.eval o).run P w = .ok (.value v) w') (hS : S w') (ha : a.put o.dst v = a') (h : inOrdL P ops S K l a' w') : inOrdL P ops S K ((some o, false) :: l) a w :=
  .inl ⟨hw, by rw [hv]; exact ⟨hS, by subst ha; exact h⟩⟩
theorem inOrd_call {K : Act → World → Prop} {o : Oper} {l : List (Option Oper × Bool)} {f : _} {args : _} {a : Act} {w : World} (hw : Region.wanted o (yielded ops a.tmps) = true) (hv : (execOp a.eval o).run P w = .ok (.enter f args) w)
    (hc : Calls P f args w (fun e w'' => ∃ u, e = .returned u ∧ S w'' ∧ inOrdL P ops S K l (a.put o.dst u) w'')) : inOrdL P ops S K ((some o, false) :: l) a w :=
  .inl ⟨hw, by rw [hv]; exact hc⟩
end
end Go.Proofs.YtjggklfegcejhaaGreat
namespace Go.Proofs.YtjggklfegcejhaaGreat
open Go.RowKit Go.PlainAid
set_option linter.unusedVariables false
set_option linter.unusedSimpArgs false

/-- Ways through a region. -/
inductive Ways where
  | done : Ways
  | rd (i : Nat) (t : Ways) : Ways
  | one (i : Nat) (t : Ways) : Ways
  | two (i j : Nat) (t u : Ways) : Ways
/-- The same, the operations written out. -/
inductive WaysO where
  | done : WaysO
  | rd (o : Option Oper) (t : WaysO) : WaysO
  | one (o : Option Oper) (t : WaysO) : WaysO
  | two (o p : Option Oper) (t u : WaysO) : WaysO
def Ways.see (l : List Oper) : Ways → WaysO
  | .done => .done
  | .rd i t => .rd l[i]? (t.see l)
  | .one i t => .one l[i]? (t.see l)
  | .two i j t u => .two l[i]? l[j]? (t.see l) (u.see l)
section
variable {P : Program} {ops : Array Oper} {S : World → Prop} {md : Region.Mode}
def inWays (P : Program) (ops : Array Oper) (S : World → Prop) (K : Act → World → Prop) : WaysO → Act → World → Prop
  | .done, a, w => K a w
  | .rd (some o) t, a, w => ∃ v, ReadsAt P ops S o v a ∧ inWays P ops S K t (a.put o.dst v) w
  | .one (some o) t, a, w => GivesM P ops S o a w (fun u w' => inWays P ops S K t (a.put o.dst u) w')
  | .two (some o) (some p) t u, a, w => GivesM P ops S o a w (fun x w' => inWays P ops S K t (a.put o.dst x) w') ∧ GivesM P ops S p a w (fun x w' => inWays P ops S K u (a.put p.dst x) w')
  | _, _, _ => False
/-- What is to be looked at, once. -/
def waysB (md : Region.Mode) (ops : Array Oper) : Ways → Nat → Array Bool → Bool
  | .done, n, listed => (n == 0) && (Region.ready md ops listed).isEmpty
  | .rd i t, n + 1, listed => (Region.ready md ops listed).contains i && Region.free md ops listed i && waysB md ops t n (listed.setIfInBounds i true)
  | .one i t, n + 1, listed => decide (Region.ready md ops listed = [i]) && waysB md ops t n (listed.setIfInBounds i true)
  | .two i j t u, n + 1, listed => decide (Region.ready md ops listed = [i, j]) && waysB md ops t n (listed.setIfInBounds i true) && waysB md ops u n (listed.setIfInBounds j true)
  | _, 0, _ => false
theorem anyM_ways {L : List Oper} {K : Act → World → Prop} (hsel : Region.noSelect L.toArray = true) : ∀ (t : Ways) (n : Nat) (listed : Array Bool) (a : Act) (w : World), waysB md L.toArray t n listed = true → S w → inWays P L.toArray S K (t.see L) a w →
    anyM P md L.toArray S L.toArray.size (fun listed' a' w' => Region.ready md L.toArray listed' = [] ∧ K a' w') n listed a w
  | .done, n, listed, a, w, hB, _, h => by
    simp only [waysB, Bool.and_eq_true, beq_iff_eq] at hB
    obtain ⟨rfl, hr⟩ := hB
    exact ⟨by simpa [List.isEmpty_iff] using hr, h⟩
  | .rd i t, n + 1, listed, a, w, hB, hS, h => by
    simp only [waysB, Bool.and_eq_true] at hB
    obtain ⟨⟨hr, hf⟩, hB'⟩ := hB
    cases ho : L[i]? with
    | none => simp only [Ways.see, ho, inWays] at h
    | some o =>
      simp only [Ways.see, ho, inWays] at h
      obtain ⟨v, hy, hK⟩ := h
      have ho' : L.toArray[i]? = some o := by simpa using ho
      exact anyM_free ho' (Region.noSelect_spec hsel) (fun _ _ _ h => h.1) n listed a w (Region.free_spec ho' hf) (by simpa using hr) hy hS (anyM_ways hsel t n _ _ w hB' hS hK)
  | .one i t, n + 1, listed, a, w, hB, hS, h => by
    simp only [waysB, Bool.and_eq_true, decide_eq_true_eq] at hB
    cases ho : L[i]? with
    | none => simp only [Ways.see, ho, inWays] at h
    | some o =>
      simp only [Ways.see, ho, inWays] at h
      have ho' : L.toArray[i]? = some o := by simpa using ho
      refine ⟨by rw [hB.1]; simp, fun j hj => ?_⟩
      have hji : j = i := by rw [hB.1] at hj; simpa using hj
      subst hji
      exact ⟨(Array.getElem?_eq_some_iff.1 ho').1, o, ho', GivesM.mono (fun u w' hS' hn => anyM_ways hsel t n _ _ w' hB.2 hS' hn) h⟩
  | .two i j t u, n + 1, listed, a, w, hB, hS, h => by
    simp only [waysB, Bool.and_eq_true, decide_eq_true_eq] at hB
    cases ho : L[i]? with
    | none => simp only [Ways.see, ho, inWays] at h
    | some o =>
      cases hp : L[j]? with
      | none => simp only [Ways.see, ho, hp, inWays] at h
      | some p =>
        simp only [Ways.see, ho, hp, inWays] at h
        have ho' : L.toArray[i]? = some o := by simpa using ho
        have hp' : L.toArray[j]? = some p := by simpa using hp
        refine ⟨by rw [hB.1.1]; simp, fun k hk => ?_⟩
        rw [hB.1.1] at hk
        rcases List.mem_cons.1 hk with rfl | hk
        · exact ⟨(Array.getElem?_eq_some_iff.1 ho').1, o, ho', GivesM.mono (fun u w' hS' hn => anyM_ways hsel t n _ _ w' hB.1.2 hS' hn) h.1⟩
        · have hkj : k = j := by simpa using hk
          subst hkj
          exact ⟨(Array.getElem?_eq_some_iff.1 hp').1, p, hp', GivesM.mono (fun x w' hS' hn => anyM_ways hsel u n _ _ w' hB.2 hS' hn) h.2⟩
  | .rd _ _, 0, _, _, _, hB, _, _ => by simp only [waysB, Bool.false_eq_true] at hB
  | .one _ _, 0, _, _, _, hB, _, _ => by simp only [waysB, Bool.false_eq_true] at hB
  | .two _ _ _ _, 0, _, _, _, hB, _, _ => by simp only [waysB, Bool.false_eq_true] at hB
/-- The law. -/
theorem region_ways {id : Nat} {Q : Exit → Act → World → Prop} {a : Act} {w : World} {l : List Oper} (t : Ways) (S : World → Prop) (hm : P.follows .mixedOrders = true)
    (hB : (Region.noSelect l.toArray && waysB .any l.toArray t l.length (Array.replicate l.length false)) = true) (hS : S w.drew)
    (h : ∀ K : Act → World → Prop, Hid (∀ a' w', Q .normal a' w' → K a' w') → let OPS := l.toArray; inWays P OPS S K (t.see l) a w.drew) : (Code.region id l.toArray true).wp P Q a w := by
  simp only [Bool.and_eq_true] at hB
  obtain ⟨hsel, ho⟩ := hB
  refine wp_region_any hm ?_
  have H := anyM_ways (P := P) (S := S) (md := .any) (K := fun a' w' => Q .normal a' w') hsel t l.length (Array.replicate l.length false) a w.drew ho hS (h _ (Lib.hid fun _ _ h => h))
  have := anyM_sound (P := P) (S := S) (Q := Q) (g := 0) (fun listed a' w' hL => ⟨hL.1, hL.2⟩) _ _ _ _ H
  rw [Nat.add_zero] at this
  simpa using this
theorem inWays_nil {K : Act → World → Prop} {a : Act} {w : World} (h : K a w) : inWays P ops S K .done a w := h
theorem inWays_read {K : Act → World → Prop} {o : Oper} {t : WaysO} {v : Value} {a a' : Act} {w : World} (hw : Region.wanted o (yielded ops a.tmps) = true) (hv : ∀ w, S w → (execOp a.eval o).run P w = .ok (.value v) w) (ha : a.put o.dst v = a') (h : inWays P ops S K t a' w) : inWays P ops S K (.rd (some o) t) a w :=
  ⟨v, .inl ⟨hw, hv⟩, by rw [ha]; exact h⟩
theorem inWays_val {K : Act → World → Prop} {o : Oper} {t : WaysO} {v : Value} {a a' : Act} {w w' : World} (hw : Region.wanted o (yielded ops a.tmps) = true) (hv : (execOp a.eval o).run P w = .ok (.value v) w') (hS : S w') (ha : a.put o.dst v = a') (h : inWays P ops S K t a' w') : inWays P ops S K (.one (some o) t) a w :=
  .inl ⟨hw, by rw [hv]; exact ⟨hS, by subst ha; exact h⟩⟩
theorem inWays_skip {K : Act → World → Prop} {o : Oper} {t : WaysO} {a a' : Act} {w w' : World} (hw : Region.wanted o (yielded ops a.tmps) = true) (hv : (execOp a.eval o).run P w = .ok .skip w') (hS : S w') (ha : a.put o.dst undef = a') (h : inWays P ops S K t a' w') : inWays P ops S K (.one (some o) t) a w :=
  .inl ⟨hw, by rw [hv]; exact ⟨hS, by subst ha; exact h⟩⟩
theorem inWays_call {K : Act → World → Prop} {o : Oper} {t : WaysO} {f : _} {args : _} {a : Act} {w : World} (hw : Region.wanted o (yielded ops a.tmps) = true) (hv : (execOp a.eval o).run P w = .ok (.enter f args) w)
    (hc : Calls P f args w (fun e w'' => ∃ u, e = .returned u ∧ S w'' ∧ inWays P ops S K t (a.put o.dst u) w'')) : inWays P ops S K (.one (some o) t) a w :=
  .inl ⟨hw, by rw [hv]; exact hc⟩
theorem inWays_two {K : Act → World → Prop} {o p : Oper} {t u : WaysO} {a : Act} {w : World} (h1 : inWays P ops S K (.one (some o) t) a w) (h2 : inWays P ops S K (.one (some p) u) a w) : inWays P ops S K (.two (some o) (some p) t u) a w := ⟨h1, h2⟩
end
end Go.Proofs.YtjggklfegcejhaaGreat
namespace Go.Proofs.YtjggklfegcejhaaGreat
open Go.RowKit Go.PlainAid
set_option linter.unusedVariables false
set_option linter.unusedSimpArgs false

section
variable {P : Program} {ops : Array Oper} {S : World → Prop} {md : Region.Mode} {G0 : Nat → Value → Prop} {GG : Nat → Value → World → Prop}
/-- What a run of one operation comes to: a value of the shape, the fact, a world in which all else is as it was. -/
def kripUpon (P : Program) (S : World → Prop) (w : World) (G : Value → Prop) (F : Value → World → Prop) : Result Next → Prop
  | .ok (.value u) w' => G u ∧ F u w' ∧ Below w.heap.size w w' ∧ S w'
  | .ok (.enter f args) w' => Calls P f args w' (fun e w'' => ∃ u, e = .returned u ∧ G u ∧ F u w'' ∧ Below w.heap.size w w'' ∧ S w'')
  | _ => False
def GivesK (P : Program) (ops : Array Oper) (S : World → Prop) (o : Oper) (G : Value → Prop) (F : Value → World → Prop) (a : Act) (w : World) : Prop :=
  (Region.wanted o (yielded ops a.tmps) = true ∧ kripUpon P S w G F ((execOp a.eval o).run P w)) ∨ (Region.wanted o (yielded ops a.tmps) = false ∧ G undef ∧ F undef w)
theorem GivesK.same {o : Oper} {G : Value → Prop} {F : Value → World → Prop} {a a' : Act} {w : World} (h : GivesK P ops S o G F a w) (he : execOp a'.eval o = execOp a.eval o)
    (hw : Region.wanted o (yielded ops a'.tmps) = Region.wanted o (yielded ops a.tmps)) : GivesK P ops S o G F a' w := by
  unfold GivesK at *; rw [he, hw]; exact h
def FactsK (md : Region.Mode) (GG : Nat → Value → World → Prop) (o : Oper) (vs : Nat → Value) (w : World) : Prop := ∀ e ∈ o.after, Region.binds md e = true → GG e.on (vs e.on) w
def putV (vs : Nat → Value) (j : Nat) (v : Value) : Nat → Value := fun i => if i = j then v else vs i
theorem putV_comm (vs : Nat → Value) {i j : Nat} (h : i ≠ j) (u v : Value) : putV (putV vs i u) j v = putV (putV vs j v) i u := by
  funext k
  unfold putV
  by_cases h1 : k = j
  · by_cases h2 : k = i
    · omega
    · simp [h1, h2]; intro h3; exact absurd h3.symm h
  · by_cases h2 : k = i <;> simp [h1, h2]
    intro h3; exact absurd h3 h
theorem FactsK.but {o : Oper} {vs : Nat → Value} {j : Nat} {v : Value} {w : World} (h : FactsK md GG o (putV vs j v) w) (hn : ∀ e ∈ o.after, Region.binds md e = true → e.on ≠ j) : FactsK md GG o vs w := fun e he hb => by
  have := h e he hb
  unfold putV at this
  rwa [if_neg (hn e he hb)] at this
theorem FactsK.more {o : Oper} {vs : Nat → Value} {j : Nat} {v : Value} {w : World} (h : FactsK md GG o vs w) (hn : ∀ e ∈ o.after, Region.binds md e = true → e.on ≠ j) : FactsK md GG o (putV vs j v) w := fun e he hb => by
  have := h e he hb
  unfold putV
  rwa [if_neg (hn e he hb)]
def anyK (P : Program) (md : Region.Mode) (ops : Array Oper) (S : World → Prop) (G0 : Nat → Value → Prop) (GG : Nat → Value → World → Prop) (n : Nat) (L : Array Bool → (Nat → Value) → Act → Prop) : Nat → Array Bool → (Nat → Value) → Act → Prop
  | 0, listed, vs, a => L listed vs a
  | f + 1, listed, vs, a => Region.ready md ops listed ≠ [] ∧ ∀ j ∈ Region.ready md ops listed, j < n ∧ ∃ o, ops[j]? = some o ∧ (∀ w, S w → FactsK md GG o vs w → GivesK P ops S o (G0 j) (GG j) a w) ∧ ∀ v, G0 j v → anyK P md ops S G0 GG n L f (listed.setIfInBounds j true) (putV vs j v) (a.put o.dst v)
theorem listed_set {listed : Array Bool} {i j : Nat} (h : (listed.setIfInBounds j true).getD i false = true) : i = j ∨ listed.getD i false = true := by
  by_cases e : i = j
  · exact .inl e
  · right
    rwa [getD_set_ne false (Ne.symm e)] at h
theorem anyK_sound {n g : Nat} {L : Array Bool → (Nat → Value) → Act → Prop} {Q : Exit → Act → World → Prop} (hR : ∀ i v w w', Below w.heap.size w w' → GG i v w → GG i v w')
    (hL : ∀ listed vs a w, L listed vs a → S w → (∀ i, listed.getD i false = true → GG i (vs i) w) → wpAny P md ops Q g listed a w) :
    ∀ (f : Nat) (listed : Array Bool) (vs : Nat → Value) (a : Act) (w : World), S w → (∀ i, listed.getD i false = true → GG i (vs i) w) → anyK P md ops S G0 GG n L f listed vs a → wpAny P md ops Q (f + g) listed a w
  | 0, listed, vs, a, w, hS, hF, h => by rw [Nat.zero_add]; exact hL _ _ _ _ h hS hF
  | f + 1, listed, vs, a, w, hS, hF, h => by
    rw [show f + 1 + g = (f + g) + 1 by omega]
    refine ⟨fun h0 => absurd h0 h.1, fun j hj => ?_⟩
    obtain ⟨_, o, ho, hg, hn⟩ := h.2 j hj
    obtain ⟨hjun, oj, hoj, hall⟩ := mem_ready.1 hj
    obtain rfl : oj = o := by rw [ho] at hoj; exact (Option.some.inj hoj).symm
    have hFo : FactsK md GG oj vs w := fun e he hb => hF _ (hall e he hb)
    have step : ∀ u w', GG j u w' → Below w.heap.size w w' → ∀ i, (listed.setIfInBounds j true).getD i false = true → GG i (putV vs j u i) w' := fun u w' hu hb i hi => by
      unfold putV
      rcases listed_set hi with rfl | h1
      · rw [if_pos rfl]; exact hu
      · by_cases e : i = j
        · rw [if_pos e, e]; exact hu
        · rw [if_neg e]; exact hR _ _ _ _ hb (hF i h1)
    unfold wpOp
    simp only [ho]
    rcases hg w hS hFo with ⟨hw, hv⟩ | ⟨hw, h0, hu⟩
    · simp only [hw, if_true]
      refine .inl ?_
      unfold Oper.wp
      generalize (execOp a.eval oj).run P w = r at *
      cases r with
      | ok nx w' =>
        cases nx <;> simp only [kripUpon] at hv <;> simp only [Oper.upon]
        case value u => exact anyK_sound hR hL f _ _ _ w' hv.2.2.2 (step u w' hv.2.1 hv.2.2.1) (hn u hv.1)
        case enter f' args => exact hv.mono fun e w'' ⟨u, he, hg0, hgu, hb, hs⟩ => by subst he; exact anyK_sound hR hL f _ _ _ w'' hs (step u w'' hgu hb) (hn u hg0)
      | halt x w' => simp only [kripUpon] at hv
    · simp only [hw, Bool.false_eq_true, if_false]
      exact anyK_sound hR hL f _ _ _ w hS (step undef w hu (Below.refl _ _)) (hn _ h0)
theorem anyK_first {n i : Nat} {oi : Oper} {L : Array Bool → (Nat → Value) → Act → Prop} (hi : ops[i]? = some oi) (hsel : ∀ (j : Nat) (o : Oper) cs b, ops[j]? = some o → o.op ≠ .select cs b)
    (hs : Region.sinkB md ops n = true) (hc : Region.chainB md ops n = true) (hn : n < ops.size) (hin : i < n) (hne : ∃ v, G0 i v)
    (hdone : ∀ listed vs a, L listed vs a → ∀ j ∈ Region.ready md ops listed, n ≤ j) :
    ∀ (f : Nat) (listed : Array Bool) (vs : Nat → Value) (a : Act), HeadInv md ops n listed →
      (∀ j oj, ops[j]? = some oj → j ≠ i → listed.getD j true = false → (∀ e ∈ oj.after, Region.binds md e = true → e.on ≠ i) → oi.apart ops oj = true) →
      i ∈ Region.ready md ops listed → (∀ w, S w → FactsK md GG oi vs w → GivesK P ops S oi (G0 i) (GG i) a w) →
      (∀ v, G0 i v → anyK P md ops S G0 GG n L f (listed.setIfInBounds i true) (putV vs i v) (a.put oi.dst v)) → anyK P md ops S G0 GG n L (f + 1) listed vs a := by
  obtain ⟨v0, hv0⟩ := hne
  intro f
  induction f with
  | zero =>
    intro listed vs a inv _ hr hy H
    have hun := (mem_ready.1 hr).1
    refine ⟨fun h => (by rw [h] at hr; cases hr), fun j hj => ?_⟩
    have hjn : j < n := by
      rcases Nat.lt_or_ge j n with h | h
      · exact h
      · exact absurd hj (tail_waits hs hc hn inv _ i rfl hin hun j h)
    refine ⟨hjn, ?_⟩
    by_cases hji : j = i
    · subst hji; exact ⟨oi, hi, hy, H⟩
    · have := hdone _ _ _ (H v0 hv0) j (ready_mono hj hji)
      omega
  | succ f ih =>
    intro listed vs a inv hfree hr hy H
    have hun := (mem_ready.1 hr).1
    refine ⟨fun h => (by rw [h] at hr; cases hr), fun j hj => ?_⟩
    have hjn : j < n := by
      rcases Nat.lt_or_ge j n with h | h
      · exact h
      · exact absurd hj (tail_waits hs hc hn inv _ i rfl hin hun j h)
    refine ⟨hjn, ?_⟩
    by_cases hji : j = i
    · subst hji; exact ⟨oi, hi, hy, H⟩
    · obtain ⟨_, oj', hoj', hgj, _⟩ := (H v0 hv0).2 j (ready_mono hj hji)
      obtain ⟨hjun, oj, hoj, hall⟩ := mem_ready.1 hj
      obtain rfl : oj' = oj := by rw [hoj] at hoj'; exact (Option.some.inj hoj').symm
      have hnot : ∀ e ∈ oj'.after, Region.binds md e = true → e.on ≠ i := fun e he hb heq => by
        have h1 := hall e he hb
        rw [heq, getD_both hun] at h1
        cases h1
      have hnoti : ∀ e ∈ oi.after, Region.binds md e = true → e.on ≠ j := fun e he hb heq => by
        obtain ⟨_, o2, ho2, hall2⟩ := mem_ready.1 hr
        obtain rfl : o2 = oi := by rw [hi] at ho2; exact (Option.some.inj ho2).symm
        have h1 := hall2 e he hb
        rw [heq, getD_both hjun] at h1
        cases h1
      obtain ⟨a1, a2, a3⟩ := Oper.apart_spec (hfree j oj' hoj hji hjun hnot)
      refine ⟨oj', hoj, fun w hS hF => (hgj w hS (hF.more hnot)).same (execOp_put oj' (fun cs b => hsel j oj' cs b hoj) a oi.dst v0 a1).symm (wanted_put oj' a oi.dst v0 a1).symm, fun u hu => ?_⟩
      refine ih _ _ _ (inv.set hj hjn) (fun k ok hk hki hun' hno => hfree k ok hk hki ?_ hno) (ready_mono hr (Ne.symm hji)) (fun w hS hF => (hy w hS (hF.but hnoti)).same (execOp_put oi (fun cs b => hsel i oi cs b hi) a oj'.dst u a3) (wanted_put oi a oj'.dst u a3)) (fun v hv => ?_)
      · by_cases hjk : j = k
        · subst hjk; exact hjun
        · rw [getD_set_ne true hjk] at hun'; exact hun'
      · obtain ⟨_, oj2, hoj2, _, hnx⟩ := (H v hv).2 j (ready_mono hj hji)
        obtain rfl : oj2 = oj' := by rw [hoj] at hoj2; exact (Option.some.inj hoj2).symm
        rw [Array.setIfInBounds_comm _ _ hji, ← Act.put_comm a v u a2, putV_comm vs hji]
        exact hnx u hu
/-- The walk in the order of the text. -/
def inKrip (P : Program) (md : Region.Mode) (ops : Array Oper) (S : World → Prop) (G0 : Nat → Value → Prop) (GG : Nat → Value → World → Prop) (K : (Nat → Value) → Act → Prop) : Nat → List Oper → (Nat → Value) → Act → Prop
  | _, [], vs, a => K vs a
  | k, o :: l, vs, a => (∃ v, G0 k v) ∧ (∀ w, S w → FactsK md GG o vs w → GivesK P ops S o (G0 k) (GG k) a w) ∧ ∀ v, G0 k v → inKrip P md ops S G0 GG K (k + 1) l (putV vs k v) (a.put o.dst v)
theorem anyK_lex {n g : Nat} {Lq : (Nat → Value) → Act → Prop} (hsel : Region.noSelect ops = true) (hs : Region.sinkB md ops n = true) (hc : Region.chainB md ops n = true) (hn : n < ops.size) :
    ∀ (l : List Oper) (k : Nat) (listed : Array Bool) (vs : Nat → Value) (a : Act), (∀ j, j < l.length → l[j]? = ops[k + j]?) → k + l.length = n → HeadInv md ops n listed → (∀ i, i < k → listed.getD i false = true) →
    Region.lexHead md ops g l.length k listed = true → inKrip P md ops S G0 GG Lq k l vs a →
    anyK P md ops S G0 GG n (fun listed' vs' a' => Region.seqB md ops g n listed' = true ∧ (∀ i, i < n → listed'.getD i false = true) ∧ Lq vs' a') l.length listed vs a
  | [], k, listed, vs, a, _, hk, _, hd, hB, h => by
    have : k = n := by simpa using hk
    subst this
    exact ⟨by simpa [Region.lexHead] using hB, hd, h⟩
  | o :: l, k, listed, vs, a, hl, hk, inv, hd, hB, h => by
    have h0 : ops[k]? = some o := by simpa using (hl 0 (by simp)).symm
    simp only [List.length_cons, Region.lexHead, Bool.and_eq_true] at hB
    obtain ⟨⟨hr, hf⟩, hB'⟩ := hB
    have hkn : k < n := by simp only [List.length_cons] at hk; omega
    have hr' : k ∈ Region.ready md ops listed := by simpa using hr
    have hun := (mem_ready.1 hr').1
    have hkz : k < listed.size := by
      rcases Nat.lt_or_ge k listed.size with h' | h'
      · exact h'
      · simp [Array.getElem?_eq_none h'] at hun
    obtain ⟨hne, hy, hK⟩ := h
    exact anyK_first h0 (Region.noSelect_spec hsel) hs hc hn hkn hne (fun listed' vs' a' hL => seqB_ready hL.1) l.length listed vs a inv (Region.free_spec h0 hf) hr' hy
      (fun v hv => anyK_lex hsel hs hc hn l (k + 1) _ _ _ (fun j hj => by have := hl (j + 1) (by simp; omega); simpa [Nat.add_assoc, Nat.add_comm 1 j] using this) (by simp only [List.length_cons] at hk; omega) (inv.set hr' hkn)
        (fun i hi => by
          by_cases e : k = i
          · subst e; simp [hkz]
          · rw [getD_set_ne false e]; exact hd i (by omega)) hB' (hK v hv))
/-- The law: n operations in whatever order; then the rest, one behind the other. -/
theorem region_krip {id : Nat} {Q : Exit → Act → World → Prop} {a : Act} {w : World} {l : List Oper} (n : Nat) (S : World → Prop) (G0 : Nat → Value → Prop) (GG : Nat → Value → World → Prop) (hm : P.follows .mixedOrders = true) (hB : Region.lexTailB .any l.toArray n = true) (hS : S w.drew)
    (hR : ∀ i v w w', Below w.heap.size w w' → GG i v w → GG i v w')
    (h : ∀ K : (Nat → Value) → Act → Prop, Hid (∀ vs a', (∀ w', S w' → (∀ i, i < n → GG i (vs i) w') → wpList P l.toArray Q (l.drop n) a' w') → K vs a') → let OPS := l.toArray; inKrip P .any OPS S G0 GG K 0 (l.take n) (fun _ => undef) a) : (Code.region id l.toArray true).wp P Q a w := by
  simp only [Region.lexTailB, Bool.and_eq_true, decide_eq_true_eq] at hB
  obtain ⟨⟨⟨⟨hsel, hn⟩, hs⟩, hc⟩, hlex⟩ := hB
  have hn' : n < l.length := by simpa using hn
  have htl : (l.take n).length = n := by simp; omega
  have hdl : (l.drop n).length = l.toArray.size - n := by simp
  have inv0 : HeadInv .any l.toArray n (Array.replicate l.toArray.size false) :=
    ⟨by simp, fun j oj _ hl => (by rw [getD_replicate_false] at hl; cases hl), fun t _ ht => getD_in (by simpa using ht) (getD_replicate_false _ _)⟩
  have H := anyK_lex (P := P) (S := S) (G0 := G0) (GG := GG) (Lq := fun vs a' => ∀ w', S w' → (∀ i, i < n → GG i (vs i) w') → wpList P l.toArray Q (l.drop n) a' w') (md := .any) (g := l.toArray.size - n) hsel hs hc hn (l.take n) 0 _ (fun _ => undef) a (fun j hj => by
    have hj' : j < n := by rw [htl] at hj; exact hj
    simp [hj']) (by simpa using htl) inv0 (fun i hi => by omega) (by rw [htl]; exact hlex) (h _ (Lib.hid fun _ _ h => h))
  refine wp_region_any hm ?_
  have := anyK_sound (P := P) (S := S) (Q := Q) (g := l.toArray.size - n) hR (fun listed vs a' w' hL hS' hF => by
    have := wpAny_of_seq (md := .any) (Q' := Q) (l.drop n) n listed a' w' (fun j => by simp [List.getElem?_drop]) (by rw [hdl]; exact hL.1) (hL.2.2 w' hS' (fun i hi => hF i (hL.2.1 i hi)))
    rwa [hdl] at this) _ _ _ _ _ hS (fun i hi => by rw [show (Array.replicate l.toArray.size false).getD i false = false from by simp [Array.getD_eq_getD_getElem?, Array.getElem?_replicate]; split <;> rfl] at hi; cases hi) H
  rw [htl, show n + (l.toArray.size - n) = l.toArray.size by omega] at this
  exact this
theorem inKrip_nil {K : (Nat → Value) → Act → Prop} {k : Nat} {vs : Nat → Value} {a : Act} (h : K vs a) : inKrip P md ops S G0 GG K k [] vs a := h
/-- A read that gives a fixed value. -/
theorem inKrip_val {K : (Nat → Value) → Act → Prop} {o : Oper} {k : Nat} {l : List Oper} {vs : Nat → Value} {v : Value} {a a' : Act} (hG : G0 k = fun u => u = v) (hF : ∀ u w, GG k u w) (hw : Region.wanted o (yielded ops a.tmps) = true) (hv : ∀ w, S w → (execOp a.eval o).run P w = .ok (.value v) w) (ha : a.put o.dst v = a') (h : inKrip P md ops S G0 GG K (k + 1) l (putV vs k v) a') : inKrip P md ops S G0 GG K k (o :: l) vs a :=
  ⟨⟨v, by rw [hG]⟩, fun w hS _ => .inl ⟨hw, by rw [hv w hS]; exact ⟨by rw [hG], hF _ _, Below.refl _ _, hS⟩⟩, fun u hu => by rw [hG] at hu; subst hu; rw [ha]; exact h⟩
/-- A call that gives a fixed value. -/
theorem inKrip_call {K : (Nat → Value) → Act → Prop} {o : Oper} {k : Nat} {l : List Oper} {vs : Nat → Value} {v : Value} {f : _} {args : _} {a a' : Act} (hG : G0 k = fun u => u = v) (hF : ∀ u w, GG k u w) (hw : Region.wanted o (yielded ops a.tmps) = true) (hv : ∀ w, S w → (execOp a.eval o).run P w = .ok (.enter f args) w)
    (hc : ∀ w, S w → Calls P f args w (fun e w' => e = .returned v ∧ Below w.heap.size w w' ∧ S w')) (ha : a.put o.dst v = a') (h : inKrip P md ops S G0 GG K (k + 1) l (putV vs k v) a') : inKrip P md ops S G0 GG K k (o :: l) vs a :=
  ⟨⟨v, by rw [hG]⟩, fun w hS _ => .inl ⟨hw, by rw [hv w hS]; exact (hc w hS).mono fun e w' h => ⟨v, h.1, by rw [hG], hF _ _, h.2⟩⟩, fun u hu => by rw [hG] at hu; subst hu; rw [ha]; exact h⟩
/-- One that makes something. -/
theorem inKrip_make {K : (Nat → Value) → Act → Prop} {o : Oper} {k : Nat} {l : List Oper} {vs : Nat → Value} {G : Value → Prop} {a : Act} (hG : G0 k = G) (hne : ∃ v, G v) (hw : Region.wanted o (yielded ops a.tmps) = true)
    (hv : ∀ w, S w → FactsK md GG o vs w → ∃ u w', (execOp a.eval o).run P w = .ok (.value u) w' ∧ G u ∧ GG k u w' ∧ Below w.heap.size w w' ∧ S w') (h : ∀ u, G u → inKrip P md ops S G0 GG K (k + 1) l (putV vs k u) (a.put o.dst u)) : inKrip P md ops S G0 GG K k (o :: l) vs a :=
  ⟨by rw [hG]; exact hne, fun w hS hF => .inl ⟨hw, by obtain ⟨u, w', he, h1⟩ := hv w hS hF; rw [he]; show G0 k u ∧ _; rw [hG]; exact h1⟩, fun u hu => h u (by rw [hG] at hu; exact hu)⟩
/-- A call that gives something. -/
theorem inKrip_any {K : (Nat → Value) → Act → Prop} {o : Oper} {k : Nat} {l : List Oper} {vs : Nat → Value} {G : Value → Prop} {f : _} {args : _} {a : Act} (hG : G0 k = G) (hne : ∃ v, G v) (hw : Region.wanted o (yielded ops a.tmps) = true) (hv : ∀ w, S w → (execOp a.eval o).run P w = .ok (.enter f args) w)
    (hc : ∀ w, S w → FactsK md GG o vs w → Calls P f args w (fun e w' => ∃ u, e = .returned u ∧ G u ∧ GG k u w' ∧ Below w.heap.size w w' ∧ S w')) (h : ∀ u, G u → inKrip P md ops S G0 GG K (k + 1) l (putV vs k u) (a.put o.dst u)) : inKrip P md ops S G0 GG K k (o :: l) vs a :=
  ⟨by rw [hG]; exact hne, fun w hS hF => .inl ⟨hw, by rw [hv w hS]; show Calls _ _ _ _ _; rw [hG]; exact hc w hS hF⟩, fun u hu => h u (by rw [hG] at hu; exact hu)⟩
end
end Go.Proofs.YtjggklfegcejhaaGreat
namespace Go.Proofs.YtjggklfegcejhaaGreat
open Go.RowKit Go.PlainAid
set_option linter.unusedVariables false
set_option linter.unusedSimpArgs false

section
variable {P : Program} {ops : Array Oper} {S : World → Prop} {md : Region.Mode}
/-- z waits for all others. -/
def waitsAll (md : Region.Mode) (ops : Array Oper) (z : Nat) : Bool := match ops[z]? with
  | some o => (List.range ops.size).all fun i => (i == z) || o.after.any (fun e => Region.binds md e && e.on == i)
  | none => false
theorem waitsAll_spec {z i : Nat} {listed : Array Bool} (h : waitsAll md ops z = true) (hz : z ∈ Region.ready md ops listed) (hi : i < ops.size) (hne : i ≠ z) : listed.getD i false = true := by
  obtain ⟨_, o, ho, hall⟩ := mem_ready.1 hz
  unfold waitsAll at h
  simp only [ho, List.all_eq_true, List.mem_range, Bool.or_eq_true, beq_iff_eq, Array.any_eq_true'] at h
  rcases h i hi with h1 | ⟨e, he, h1⟩
  · exact absurd h1 hne
  · simp only [Bool.and_eq_true, beq_iff_eq] at h1
    rw [← h1.2]; exact hall e he h1.1
theorem anyM_freeZ {i z : Nat} {oi : Oper} {v : Value} {L : Array Bool → Act → World → Prop} (hi : ops[i]? = some oi) (hsel : ∀ (j : Nat) (o : Oper) cs b, ops[j]? = some o → o.op ≠ .select cs b)
    (hwz : waitsAll md ops z = true) (hiz : i ≠ z) (hdone : ∀ listed a w, L listed a w → Region.ready md ops listed = [z]) :
    ∀ (f : Nat) (listed : Array Bool) (a : Act) (w : World),
      (∀ j oj, ops[j]? = some oj → j ≠ i → listed.getD j true = false → (∀ e ∈ oj.after, Region.binds md e = true → e.on ≠ i) → oi.apart ops oj = true) →
      i ∈ Region.ready md ops listed → ReadsAt P ops S oi v a → S w →
      anyM P md ops S ops.size L f (listed.setIfInBounds i true) (a.put oi.dst v) w → anyM P md ops S ops.size L (f + 1) listed a w := by
  intro f
  induction f with
  | zero =>
    intro listed a w _ hr hy hS H
    refine ⟨fun h => (by rw [h] at hr; cases hr), fun j hj => ?_⟩
    obtain ⟨_, oj, hoj, _⟩ := mem_ready.1 hj
    refine ⟨(Array.getElem?_eq_some_iff.1 hoj).1, ?_⟩
    by_cases hji : j = i
    · subst hji; exact ⟨oi, hi, hy.gives hS H⟩
    · have h1 := ready_mono hj hji
      rw [hdone _ _ _ H] at h1
      have hjz : j = z := by simpa using h1
      subst hjz
      have h2 := waitsAll_spec hwz hj (Array.getElem?_eq_some_iff.1 hi).1 hiz
      have h3 := (mem_ready.1 hr).1
      rw [getD_both h3] at h2; cases h2
  | succ f ih =>
    intro listed a w hfree hr hy hS H
    have hun := (mem_ready.1 hr).1
    refine ⟨fun h => (by rw [h] at hr; cases hr), fun j hj => ?_⟩
    obtain ⟨hjun, oj, hoj, hall⟩ := mem_ready.1 hj
    refine ⟨(Array.getElem?_eq_some_iff.1 hoj).1, ?_⟩
    by_cases hji : j = i
    · subst hji; exact ⟨oi, hi, hy.gives hS H⟩
    · obtain ⟨_, oj', hoj', hgj⟩ := H.2 j (ready_mono hj hji)
      obtain rfl : oj' = oj := by rw [hoj] at hoj'; exact (Option.some.inj hoj').symm
      have hnot : ∀ e ∈ oj'.after, Region.binds md e = true → e.on ≠ i := fun e he hb heq => by
        have h1 := hall e he hb
        rw [heq, getD_both hun] at h1
        cases h1
      obtain ⟨a1, a2, a3⟩ := Oper.apart_spec (hfree j oj' hoj hji hjun hnot)
      refine ⟨oj', hoj, (hgj.same (execOp_put oj' (fun cs b => hsel j oj' cs b hoj) a oi.dst v a1).symm (wanted_put oj' a oi.dst v a1).symm).mono fun u w' hS' hnx => ?_⟩
      refine ih _ _ w' (fun k ok hk hki hun' hno => hfree k ok hk hki ?_ hno) (ready_mono hr (Ne.symm hji)) (hy.same (execOp_put oi (fun cs b => hsel i oi cs b hi) a oj'.dst u a3) (wanted_put oi a oj'.dst u a3)) hS' ?_
      · by_cases hjk : j = k
        · subst hjk; exact hjun
        · rw [getD_set_ne true hjk] at hun'; exact hun'
      · rw [Array.setIfInBounds_comm _ _ hji, ← Act.put_comm a v u a2]
        exact hnx
def waysZ (md : Region.Mode) (ops : Array Oper) (z : Nat) : Ways → Nat → Array Bool → Bool
  | .done, n, listed => (n == 0) && decide (Region.ready md ops listed = [z])
  | .rd i t, n + 1, listed => (Region.ready md ops listed).contains i && Region.free md ops listed i && decide (i ≠ z) && waysZ md ops z t n (listed.setIfInBounds i true)
  | .one i t, n + 1, listed => decide (Region.ready md ops listed = [i]) && waysZ md ops z t n (listed.setIfInBounds i true)
  | .two i j t u, n + 1, listed => decide (Region.ready md ops listed = [i, j]) && waysZ md ops z t n (listed.setIfInBounds i true) && waysZ md ops z u n (listed.setIfInBounds j true)
  | _, 0, _ => false
theorem anyM_waysZ {L : List Oper} {z : Nat} {K : Act → World → Prop} (hsel : Region.noSelect L.toArray = true) (hwz : waitsAll md L.toArray z = true) : ∀ (t : Ways) (n : Nat) (listed : Array Bool) (a : Act) (w : World), waysZ md L.toArray z t n listed = true → S w → inWays P L.toArray S K (t.see L) a w →
    anyM P md L.toArray S L.toArray.size (fun listed' a' w' => Region.ready md L.toArray listed' = [z] ∧ K a' w') n listed a w
  | .done, n, listed, a, w, hB, _, h => by
    simp only [waysZ, Bool.and_eq_true, beq_iff_eq, decide_eq_true_eq] at hB
    obtain ⟨rfl, hr⟩ := hB
    exact ⟨hr, h⟩
  | .rd i t, n + 1, listed, a, w, hB, hS, h => by
    simp only [waysZ, Bool.and_eq_true, decide_eq_true_eq] at hB
    obtain ⟨⟨⟨hr, hf⟩, hiz⟩, hB'⟩ := hB
    cases ho : L[i]? with
    | none => simp only [Ways.see, ho, inWays] at h
    | some o =>
      simp only [Ways.see, ho, inWays] at h
      obtain ⟨v, hy, hK⟩ := h
      have ho' : L.toArray[i]? = some o := by simpa using ho
      exact anyM_freeZ ho' (Region.noSelect_spec hsel) hwz hiz (fun _ _ _ h => h.1) n listed a w (Region.free_spec ho' hf) (by simpa using hr) hy hS (anyM_waysZ hsel hwz t n _ _ w hB' hS hK)
  | .one i t, n + 1, listed, a, w, hB, hS, h => by
    simp only [waysZ, Bool.and_eq_true, decide_eq_true_eq] at hB
    cases ho : L[i]? with
    | none => simp only [Ways.see, ho, inWays] at h
    | some o =>
      simp only [Ways.see, ho, inWays] at h
      have ho' : L.toArray[i]? = some o := by simpa using ho
      refine ⟨by rw [hB.1]; simp, fun j hj => ?_⟩
      have hji : j = i := by rw [hB.1] at hj; simpa using hj
      subst hji
      exact ⟨(Array.getElem?_eq_some_iff.1 ho').1, o, ho', GivesM.mono (fun u w' hS' hn => anyM_waysZ hsel hwz t n _ _ w' hB.2 hS' hn) h⟩
  | .two i j t u, n + 1, listed, a, w, hB, hS, h => by
    simp only [waysZ, Bool.and_eq_true, decide_eq_true_eq] at hB
    cases ho : L[i]? with
    | none => simp only [Ways.see, ho, inWays] at h
    | some o =>
      cases hp : L[j]? with
      | none => simp only [Ways.see, ho, hp, inWays] at h
      | some p =>
        simp only [Ways.see, ho, hp, inWays] at h
        have ho' : L.toArray[i]? = some o := by simpa using ho
        have hp' : L.toArray[j]? = some p := by simpa using hp
        refine ⟨by rw [hB.1.1]; simp, fun k hk => ?_⟩
        rw [hB.1.1] at hk
        rcases List.mem_cons.1 hk with rfl | hk
        · exact ⟨(Array.getElem?_eq_some_iff.1 ho').1, o, ho', GivesM.mono (fun u w' hS' hn => anyM_waysZ hsel hwz t n _ _ w' hB.1.2 hS' hn) h.1⟩
        · have hkj : k = j := by simpa using hk
          subst hkj
          exact ⟨(Array.getElem?_eq_some_iff.1 hp').1, p, hp', GivesM.mono (fun x w' hS' hn => anyM_waysZ hsel hwz u n _ _ w' hB.2 hS' hn) h.2⟩
  | .rd _ _, 0, _, _, _, hB, _, _ => by simp only [waysZ, Bool.false_eq_true] at hB
  | .one _ _, 0, _, _, _, hB, _, _ => by simp only [waysZ, Bool.false_eq_true] at hB
  | .two _ _ _ _, 0, _, _, _, hB, _, _ => by simp only [waysZ, Bool.false_eq_true] at hB
def lastB (l : List Oper) (t : Ways) : Bool := Region.noSelect l.toArray && waitsAll .any l.toArray (l.length - 1) && decide (0 < l.length) && waysZ .any l.toArray (l.length - 1) t (l.length - 1) (Array.replicate l.length false)
/-- The law. -/
theorem region_last {id : Nat} {Q : Exit → Act → World → Prop} {a : Act} {w : World} {l : List Oper} (t : Ways) (S : World → Prop) (hm : P.follows .mixedOrders = true) (hB : lastB l t = true) (hS : S w.drew)
    (h : ∀ K : Act → World → Prop, Hid (∀ a' w', wpList P l.toArray Q (l.drop (l.length - 1)) a' w' → K a' w') → let OPS := l.toArray; inWays P OPS S K (t.see l) a w.drew) : (Code.region id l.toArray true).wp P Q a w := by
  unfold lastB at hB
  simp only [Bool.and_eq_true, decide_eq_true_eq] at hB
  obtain ⟨⟨⟨hsel, hwz⟩, h0⟩, ho⟩ := hB
  refine wp_region_any hm ?_
  have H := anyM_waysZ (P := P) (S := S) (md := .any) (K := fun a' w' => wpList P l.toArray Q (l.drop (l.length - 1)) a' w') hsel hwz t (l.length - 1) (Array.replicate l.length false) a w.drew ho hS (h _ (Lib.hid fun _ _ h => h))
  have hd : l.drop (l.length - 1) = [l[l.length - 1]'(by omega)] := by
    rw [List.drop_eq_getElem_cons (by omega), show l.length - 1 + 1 = l.length by omega, List.drop_length]
  have := anyM_sound (P := P) (S := S) (Q := Q) (g := 1) (fun listed' a' w' hL => by
    obtain ⟨hr, hK⟩ := hL
    rw [hd] at hK
    refine ⟨fun e => (by rw [hr] at e; cases e), fun i hi => ?_⟩
    rw [hr] at hi
    have hiz : i = l.length - 1 := by simpa using hi
    subst hiz
    have hop : l.toArray[l.length - 1]? = some (l[l.length - 1]'(by omega)) := by simp [h0]
    have hw : wpOp P l.toArray Q (l.length - 1) (wpList P l.toArray Q []) a' w' := by unfold wpOp; simp only [hop]; exact hK
    refine wpOp_mono (fun a'' w'' h' => ?_) hw
    refine ⟨List.eq_nil_iff_forall_not_mem.2 fun j hj => ?_, h'⟩
    obtain ⟨hjun, oj, hoj, _⟩ := mem_ready.1 hj
    have hjl : j < l.length := by have := (Array.getElem?_eq_some_iff.1 hoj).1; simpa using this
    have hzr : l.length - 1 ∈ Region.ready .any l.toArray listed' := by rw [hr]; simp
    by_cases e : j = l.length - 1
    · subst e
      have hun := (mem_ready.1 hzr).1
      have hz : l.length - 1 < listed'.size := by
        rcases Nat.lt_or_ge (l.length - 1) listed'.size with h1 | h1
        · exact h1
        · simp [Array.getElem?_eq_none h1] at hun
      simp [hz] at hjun
    · have h1 := waitsAll_spec hwz hzr (by simpa using hjl) e
      have h2 : listed'.getD j true = false := by rw [getD_set_ne true (Ne.symm e)] at hjun; exact hjun
      rw [getD_both h2] at h1; cases h1) _ _ _ _ H
  rw [show l.length - 1 + 1 = l.toArray.size by simp; omega] at this
  simpa using this
/-- An append, where it comes up alone. -/
theorem inWays_append {K : Act → World → Prop} {o : Oper} {T : WaysO} {a : Act} {w : World} (hgw : Region.wanted o (yielded ops a.tmps) = true) (s x : Operand) (t : TypeId)
    (ho : o.op = .call { callee := .builtin .append, args := #[s, x], argTypes := #[t, t] })
    (base : Nat) (e : TypeId) (i : TypeInfo) (z : Value) (size bytes : Nat) (ht : P.underlying t = some (.slice e)) (hi : P.info? e = some i) (hz : i.zero = some z)
    (hsize : i.size = size) (hby : i.bytes = bytes) (hzs : z.cells.size = size) (hsz : 0 < size)
    (v : Value) (n : Nat) (xs : List Value) (hs : a.eval s = v) (hown : w.ownsRow base e size v n xs)
    (ad : Addr) (m c : Nat) (news : List Value) (hx : a.eval x = .slice (some ad) m c) (hl : news.length = m * size) (hnews : ∀ j u, news[j]? = some u → w.cell? (ad.add j) = some u) (h1 : ∀ u ∈ news, u.oneCell' = true)
    (hm : 0 < m) (h63 : n + m ≤ maxLen) (hbytes : (n + m) * bytes ≤ 140737488355328) (hbase : base ≤ w.heap.size)
    (h : ∀ g cap w', w'.ownsRow base e size (.slice (some ⟨g, 0, none⟩) (n + m) cap) (n + m) (xs ++ news) → w.grownBy w' v.ownBlock → (v.ownBlock = some g ∨ g = w.heap.size) → g < w'.heap.size → S w' ∧ inWays P ops S K T (a.put o.dst (.slice (some ⟨g, 0, none⟩) (n + m) cap)) w') : inWays P ops S K (.one (some o) T) a w := by
  obtain ⟨g, cap, w', hr, h2, h3, h4, h5⟩ := run_append_lies (P := P) w t o.type base e i z size bytes ht hi hz hsize hby hzs hsz v n xs hown ad m c news hl hnews h1 hm h63 hbytes hbase _ rfl
  obtain ⟨hS, hK⟩ := h g cap w' h2 h3 h4 h5
  refine .inl ⟨hgw, ?_⟩
  have : (execOp a.eval o).run P w = .ok (.value (.slice (some ⟨g, 0, none⟩) (n + m) cap)) w' := by
    unfold execOp
    simp only [ho, resolve, invoke, builtin, Sem.run_bind, Sem.run_pure, Result.andThen_ok, List.map_toArray, List.map_cons, List.map_nil, hs, hx, hr]
  rw [this]
  exact ⟨hS, hK⟩
end
end Go.Proofs.YtjggklfegcejhaaGreat
