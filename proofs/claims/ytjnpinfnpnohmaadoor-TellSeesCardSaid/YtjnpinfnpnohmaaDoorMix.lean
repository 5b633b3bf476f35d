/- A region that draws its order: first some reads that give fixed values in every world of a sort; then operations, each of which comes up alone once these are through, and which stay in the sort as long as a read may still be out; then the rest, which waits for all of these. -/
import Derived.Test.YtjnpinfnpnohmaaDoorTail
namespace Go.Proofs.YtjnpinfnpnohmaaDoor
open Go.RowKit Go.PlainAid
set_option linter.unusedVariables false
set_option linter.unusedSimpArgs false

section
variable {P : Program} {ops : Array Oper} {S : World → Prop} {md : Region.Mode}
/-- What a run of one operation comes to. -/
def mixUpon (P : Program) (S : World → Prop) (K : Value → World → Prop) : Result Next → Prop
  | .ok (.value u) w' => S w' ∧ K u w'
  | .ok (.enter f args) w' => Calls P f args w' (fun e w'' => ∃ u, e = .returned u ∧ S w'' ∧ K u w'')
  | _ => False
def GivesM (P : Program) (ops : Array Oper) (S : World → Prop) (o : Oper) (a : Act) (w : World) (K : Value → World → Prop) : Prop :=
  (Region.wanted o (yielded ops a.tmps) = true ∧ mixUpon P S K ((execOp a.eval o).run P w)) ∨ (Region.wanted o (yielded ops a.tmps) = false ∧ S w ∧ K undef w)
theorem mixUpon.mono {K K' : Value → World → Prop} (h : ∀ u w', S w' → K u w' → K' u w') {r : Result Next} (hr : mixUpon P S K r) : mixUpon P S K' r := by
  cases r with
  | ok nx w' =>
    cases nx <;> simp only [mixUpon] at hr ⊢
    case value u => exact ⟨hr.1, h _ _ hr.1 hr.2⟩
    case enter f args => exact Calls.mono hr fun e w'' ⟨u, h1, h2, h3⟩ => ⟨u, h1, h2, h _ _ h2 h3⟩
  | halt x w' => simp only [mixUpon] at hr
theorem GivesM.mono {o : Oper} {a : Act} {w : World} {K K' : Value → World → Prop} (h : ∀ u w', S w' → K u w' → K' u w') (hr : GivesM P ops S o a w K) : GivesM P ops S o a w K' :=
  hr.elim (fun ⟨h1, h2⟩ => .inl ⟨h1, h2.mono h⟩) (fun ⟨h1, h2, h3⟩ => .inr ⟨h1, h2, h _ _ h2 h3⟩)
theorem GivesM.same {o : Oper} {a a' : Act} {w : World} {K : Value → World → Prop} (h : GivesM P ops S o a w K) (he : execOp a'.eval o = execOp a.eval o)
    (hw : Region.wanted o (yielded ops a'.tmps) = Region.wanted o (yielded ops a.tmps)) : GivesM P ops S o a' w K := by
  unfold GivesM at *; rw [he, hw]; exact h
/-- At a, o gives v in each world of the sort, which it leaves as it is; or it is not wanted. -/
def ReadsAt (P : Program) (ops : Array Oper) (S : World → Prop) (o : Oper) (v : Value) (a : Act) : Prop :=
  (Region.wanted o (yielded ops a.tmps) = true ∧ ∀ w, S w → (execOp a.eval o).run P w = .ok (.value v) w) ∨ (Region.wanted o (yielded ops a.tmps) = false ∧ v = undef)
theorem ReadsAt.same {o : Oper} {v : Value} {a a' : Act} (h : ReadsAt P ops S o v a) (he : execOp a'.eval o = execOp a.eval o)
    (hw : Region.wanted o (yielded ops a'.tmps) = Region.wanted o (yielded ops a.tmps)) : ReadsAt P ops S o v a' := by
  unfold ReadsAt at *; rw [he, hw]; exact h
theorem ReadsAt.gives {o : Oper} {v : Value} {a : Act} {w : World} {K : Value → World → Prop} (h : ReadsAt P ops S o v a) (hS : S w) (hK : K v w) : GivesM P ops S o a w K := by
  rcases h with ⟨h1, h2⟩ | ⟨h1, rfl⟩
  · exact .inl ⟨h1, by rw [h2 w hS]; exact ⟨hS, hK⟩⟩
  · exact .inr ⟨h1, hS, hK⟩
def anyM (P : Program) (md : Region.Mode) (ops : Array Oper) (S : World → Prop) (m : Nat) (L : Array Bool → Act → World → Prop) : Nat → Array Bool → Act → World → Prop
  | 0, listed, a, w => L listed a w
  | f + 1, listed, a, w => Region.ready md ops listed ≠ [] ∧ ∀ j ∈ Region.ready md ops listed, j < m ∧ ∃ o, ops[j]? = some o ∧ GivesM P ops S o a w (fun u w' => anyM P md ops S m L f (listed.setIfInBounds j true) (a.put o.dst u) w')
theorem anyM_sound {m g : Nat} {L : Array Bool → Act → World → Prop} {Q : Exit → Act → World → Prop} (hL : ∀ listed a w, L listed a w → wpAny P md ops Q g listed a w) :
    ∀ (f : Nat) (listed : Array Bool) (a : Act) (w : World), anyM P md ops S m L f listed a w → wpAny P md ops Q (f + g) listed a w
  | 0, listed, a, w, h => by rw [Nat.zero_add]; exact hL _ _ _ h
  | f + 1, listed, a, w, h => by
    rw [show f + 1 + g = (f + g) + 1 by omega]
    refine ⟨fun h0 => absurd h0 h.1, fun j hj => ?_⟩
    obtain ⟨_, o, ho, hg⟩ := h.2 j hj
    unfold wpOp
    simp only [ho]
    rcases hg with ⟨hw, hv⟩ | ⟨hw, hS, hn⟩
    · simp only [hw, if_true]
      refine .inl ?_
      unfold Oper.wp
      generalize (execOp a.eval o).run P w = r at *
      cases r with
      | ok nx w' =>
        cases nx <;> simp only [mixUpon] at hv <;> simp only [Oper.upon]
        case value u => exact anyM_sound hL f _ _ w' hv.2
        case enter f' args => exact hv.mono fun e w'' ⟨u, he, _, hn⟩ => by subst he; exact anyM_sound hL f _ _ w'' hn
      | halt x w' => simp only [mixUpon] at hv
    · simp only [hw, Bool.false_eq_true, if_false]
      exact anyM_sound hL f _ _ w hn
theorem anyM_first {m i : Nat} {oi : Oper} {v : Value} {L : Array Bool → Act → World → Prop} (hi : ops[i]? = some oi) (hsel : ∀ (j : Nat) (o : Oper) cs b, ops[j]? = some o → o.op ≠ .select cs b)
    (hs : Region.sinkB md ops m = true) (hc : Region.chainB md ops m = true) (hm : m < ops.size) (him : i < m)
    (hdone : ∀ listed a w, L listed a w → ∀ j ∈ Region.ready md ops listed, m ≤ j) :
    ∀ (f : Nat) (listed : Array Bool) (a : Act) (w : World), HeadInv md ops m listed →
      (∀ j oj, ops[j]? = some oj → j ≠ i → listed.getD j true = false → (∀ e ∈ oj.after, Region.binds md e = true → e.on ≠ i) → oi.apart ops oj = true) →
      i ∈ Region.ready md ops listed → ReadsAt P ops S oi v a → S w →
      anyM P md ops S m L f (listed.setIfInBounds i true) (a.put oi.dst v) w → anyM P md ops S m L (f + 1) listed a w := by
  intro f
  induction f with
  | zero =>
    intro listed a w inv _ hr hy hS H
    have hun := (mem_ready.1 hr).1
    refine ⟨fun h => (by rw [h] at hr; cases hr), fun j hj => ?_⟩
    have hjm : j < m := by
      rcases Nat.lt_or_ge j m with h | h
      · exact h
      · exact absurd hj (tail_waits hs hc hm inv _ i rfl him hun j h)
    refine ⟨hjm, ?_⟩
    by_cases hji : j = i
    · subst hji; exact ⟨oi, hi, hy.gives hS H⟩
    · have := hdone _ _ _ H j (ready_mono hj hji)
      omega
  | succ f ih =>
    intro listed a w inv hfree hr hy hS H
    have hun := (mem_ready.1 hr).1
    refine ⟨fun h => (by rw [h] at hr; cases hr), fun j hj => ?_⟩
    have hjm : j < m := by
      rcases Nat.lt_or_ge j m with h | h
      · exact h
      · exact absurd hj (tail_waits hs hc hm inv _ i rfl him hun j h)
    refine ⟨hjm, ?_⟩
    by_cases hji : j = i
    · subst hji; exact ⟨oi, hi, hy.gives hS H⟩
    · obtain ⟨_, oj', hoj', hgj⟩ := H.2 j (ready_mono hj hji)
      obtain ⟨hjun, oj, hoj, hall⟩ := mem_ready.1 hj
      obtain rfl : oj' = oj := by rw [hoj] at hoj'; exact (Option.some.inj hoj').symm
      have hnot : ∀ e ∈ oj'.after, Region.binds md e = true → e.on ≠ i := fun e he hb heq => by
        have h1 := hall e he hb
        rw [heq, getD_both hun] at h1
        cases h1
      obtain ⟨a1, a2, a3⟩ := Oper.apart_spec (hfree j oj' hoj hji hjun hnot)
      refine ⟨oj', hoj, (hgj.same (execOp_put oj' (fun cs b => hsel j oj' cs b hoj) a oi.dst v a1).symm (wanted_put oj' a oi.dst v a1).symm).mono fun u w' hS' hnx => ?_⟩
      refine ih _ _ w' (inv.set hj hjm) (fun k ok hk hki hun' hno => hfree k ok hk hki ?_ hno) (ready_mono hr (Ne.symm hji)) (hy.same (execOp_put oi (fun cs b => hsel i oi cs b hi) a oj'.dst u a3) (wanted_put oi a oj'.dst u a3)) hS' ?_
      · by_cases hjk : j = k
        · subst hjk; exact hjun
        · rw [getD_set_ne true hjk] at hun'; exact hun'
      · rw [Array.setIfInBounds_comm _ _ hji, ← Act.put_comm a v u a2]
        exact hnx
/-- The operations in the middle, one behind the other. -/
def inSeq (P : Program) (ops : Array Oper) (S : World → Prop) (K : Act → World → Prop) : List Oper → Act → World → Prop
  | [], a, w => K a w
  | o :: l, a, w => GivesM P ops S o a w (fun u w' => inSeq P ops S K l (a.put o.dst u) w')
/-- The reads. -/
def inRead (P : Program) (ops : Array Oper) (S : World → Prop) (K : Act → Prop) : List Oper → Act → Prop
  | [], a => K a
  | o :: l, a => ∃ v, ReadsAt P ops S o v a ∧ inRead P ops S K l (a.put o.dst v)
theorem anyM_seq {m g : Nat} {Lq : Act → World → Prop} (hm : m < ops.size) :
    ∀ (l : List Oper) (k : Nat) (listed : Array Bool) (a : Act) (w : World), (∀ j, j < l.length → l[j]? = ops[k + j]?) → k + l.length = m →
    Region.seqB md ops (l.length + g) k listed = true → inSeq P ops S Lq l a w →
    anyM P md ops S m (fun listed' a' w' => Region.seqB md ops g m listed' = true ∧ Lq a' w') l.length listed a w
  | [], k, listed, a, w, _, hk, hB, h => by
    have : k = m := by simpa using hk
    subst this
    exact ⟨by simpa using hB, h⟩
  | o :: l, k, listed, a, w, hl, hk, hB, h => by
    have h0 : ops[k]? = some o := by simpa using (hl 0 (by simp)).symm
    rw [show (o :: l).length + g = (l.length + g) + 1 by simp only [List.length_cons]; omega] at hB
    simp only [Region.seqB, Bool.and_eq_true, decide_eq_true_eq] at hB
    have hkm : k < m := by simp only [List.length_cons] at hk; omega
    refine ⟨by rw [hB.1]; simp, fun j hj => ?_⟩
    have hjk : j = k := by rw [hB.1] at hj; simpa using hj
    subst hjk
    refine ⟨hkm, o, h0, GivesM.mono (fun u w' _ hn => ?_) h⟩
    exact anyM_seq hm l (j + 1) _ _ w' (fun i hi => by have := hl (i + 1) (by simp; omega); simpa [Nat.add_assoc, Nat.add_comm 1 i] using this) (by simp only [List.length_cons] at hk; omega) hB.2 hn
theorem anyM_read {m g : Nat} {L2 : List Oper} {Lq : Act → World → Prop} {w : World} (hsel : Region.noSelect ops = true) (hs : Region.sinkB md ops m = true) (hc : Region.chainB md ops m = true) (hm : m < ops.size) (hS : S w) :
    ∀ (l : List Oper) (k : Nat) (listed : Array Bool) (a : Act), (∀ j, j < l.length → l[j]? = ops[k + j]?) → (∀ j, j < L2.length → L2[j]? = ops[k + l.length + j]?) → k + l.length + L2.length = m → HeadInv md ops m listed →
    Region.lexHead md ops (L2.length + g) l.length k listed = true → inRead P ops S (fun a' => inSeq P ops S Lq L2 a' w) l a →
    anyM P md ops S m (fun listed' a' w' => Region.seqB md ops g m listed' = true ∧ Lq a' w') (l.length + L2.length) listed a w
  | [], k, listed, a, _, hl2, hk, _, hB, h => by
    rw [List.length_nil, Nat.zero_add]
    exact anyM_seq hm L2 k listed a w (fun j hj => by have := hl2 j hj; simpa using this) (by simpa using hk) (by simpa [Region.lexHead] using hB) h
  | o :: l, k, listed, a, hl, hl2, hk, inv, hB, h => by
    have h0 : ops[k]? = some o := by simpa using (hl 0 (by simp)).symm
    simp only [List.length_cons, Region.lexHead, Bool.and_eq_true] at hB
    obtain ⟨⟨hr, hf⟩, hB'⟩ := hB
    have hkm : k < m := by simp only [List.length_cons] at hk; omega
    have hr' : k ∈ Region.ready md ops listed := by simpa using hr
    obtain ⟨v, hy, hK⟩ := h
    rw [show (o :: l).length + L2.length = (l.length + L2.length) + 1 by simp only [List.length_cons]; omega]
    exact anyM_first h0 (Region.noSelect_spec hsel) hs hc hm hkm (fun listed' a' w' hL => seqB_ready hL.1) (l.length + L2.length) listed a w inv (Region.free_spec h0 hf) hr' hy hS
      (anyM_read hsel hs hc hm hS l (k + 1) _ _ (fun j hj => by have := hl (j + 1) (by simp; omega); simpa [Nat.add_assoc, Nat.add_comm 1 j] using this)
        (fun j hj => by have := hl2 j hj; simp only [List.length_cons] at this; rw [this]; congr 1; omega) (by simp only [List.length_cons] at hk; omega) (inv.set hr' hkm) hB' hK)
/-- What is to be looked at, once. -/
def mixB (l : List Oper) (n m : Nat) : Bool := Region.noSelect l.toArray && decide (n ≤ m ∧ m < l.length) && Region.sinkB .any l.toArray m && Region.chainB .any l.toArray m && Region.lexHead .any l.toArray ((m - n) + (l.length - m)) n 0 (Array.replicate l.length false)
/-- The law: n reads; from the n-th to the m-th one behind the other, in worlds of the sort; the rest. -/
theorem region_mix {id : Nat} {Q : Exit → Act → World → Prop} {a : Act} {w : World} {l : List Oper} (n m : Nat) (S : World → Prop) (hm : P.follows .mixedOrders = true) (hB : mixB l n m = true) (hS : S w.drew)
    (h : ∀ K : Act → World → Prop, Hid (∀ a' w', wpList P l.toArray Q (l.drop m) a' w' → K a' w') → let OPS := l.toArray; inRead P OPS S (fun a' => inSeq P OPS S K ((l.drop n).take (m - n)) a' w.drew) (l.take n) a) : (Code.region id l.toArray true).wp P Q a w := by
  unfold mixB at hB
  simp only [Bool.and_eq_true, decide_eq_true_eq] at hB
  obtain ⟨⟨⟨⟨hsel, hn, hml⟩, hs⟩, hc⟩, hlex⟩ := hB
  have htl : (l.take n).length = n := by simp; omega
  have hml2 : ((l.drop n).take (m - n)).length = m - n := by simp; omega
  have hdl : (l.drop m).length = l.length - m := by simp
  have inv0 : HeadInv .any l.toArray m (Array.replicate l.length false) :=
    ⟨by simp, fun j oj _ hl => (by rw [getD_replicate_false] at hl; cases hl), fun t _ ht => getD_in (by simpa using ht) (getD_replicate_false _ _)⟩
  have H := anyM_read (P := P) (S := S) (md := .any) (g := l.length - m) (L2 := (l.drop n).take (m - n)) (m := m) (w := w.drew) (Lq := fun a' w' => wpList P l.toArray Q (l.drop m) a' w') hsel hs hc (by simpa using hml) hS (l.take n) 0 (Array.replicate l.length false) a
    (fun j hj => by rw [htl] at hj; simp [hj])
    (fun j hj => by rw [hml2] at hj; simp [htl, hj, List.getElem?_drop]) (by rw [htl, hml2]; omega) inv0 (by rw [htl, hml2]; exact hlex) (h _ (Lib.hid fun _ _ h => h))
  refine wp_region_any hm ?_
  have := anyM_sound (P := P) (S := S) (Q := Q) (g := l.length - m) (fun listed a' w' hL => by
    have := wpAny_of_seq (md := .any) (Q' := Q) (l.drop m) m listed a' w' (fun j => by simp [List.getElem?_drop]) (by rw [hdl]; exact hL.1) hL.2
    rwa [hdl] at this) _ _ _ _ H
  rw [htl, hml2, show n + (m - n) + (l.length - m) = l.toArray.size by simp; omega] at this
  simpa using this
theorem inRead_nil {a : Act} {K : Act → Prop} (h : K a) : inRead P ops S K [] a := h
theorem inRead_val {o : Oper} {l : List Oper} {v : Value} {a a' : Act} {K : Act → Prop} (hw : Region.wanted o (yielded ops a.tmps) = true) (hv : ∀ w, S w → (execOp a.eval o).run P w = .ok (.value v) w) (ha : a.put o.dst v = a') (h : inRead P ops S K l a') : inRead P ops S K (o :: l) a :=
  ⟨v, .inl ⟨hw, hv⟩, by rw [ha]; exact h⟩
theorem inRead_skip {o : Oper} {l : List Oper} {a a' : Act} {K : Act → Prop} (hw : Region.wanted o (yielded ops a.tmps) = false) (ha : a.put o.dst undef = a') (h : inRead P ops S K l a') : inRead P ops S K (o :: l) a :=
  ⟨undef, .inr ⟨hw, rfl⟩, by rw [ha]; exact h⟩
theorem inSeq_nil {a : Act} {w : World} {K : Act → World → Prop} (h : K a w) : inSeq P ops S K [] a w := h
theorem inSeq_val {o : Oper} {l : List Oper} {v : Value} {a a' : Act} {w w' : World} {K : Act → World → Prop} (hw : Region.wanted o (yielded ops a.tmps) = true) (hv : (execOp a.eval o).run P w = .ok (.value v) w') (hS : S w') (ha : a.put o.dst v = a') (h : inSeq P ops S K l a' w') : inSeq P ops S K (o :: l) a w :=
  .inl ⟨hw, by rw [hv]; exact ⟨hS, by subst ha; exact h⟩⟩
theorem inSeq_call {o : Oper} {l : List Oper} {f : _} {args : _} {a : Act} {w : World} {K : Act → World → Prop} (hw : Region.wanted o (yielded ops a.tmps) = true) (hv : (execOp a.eval o).run P w = .ok (.enter f args) w)
    (hc : Calls P f args w (fun e w'' => ∃ u, e = .returned u ∧ S w'' ∧ inSeq P ops S K l (a.put o.dst u) w'')) : inSeq P ops S K (o :: l) a w :=
  .inl ⟨hw, by rw [hv]; exact hc⟩
end
end Go.Proofs.YtjnpinfnpnohmaaDoor
