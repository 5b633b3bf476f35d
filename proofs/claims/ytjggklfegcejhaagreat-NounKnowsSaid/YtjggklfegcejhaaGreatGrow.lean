/- A region that draws its order, whose operations give fixed values in every world of a sort and stay in it (reads; calls that only make memory): one walk in the order of the text. -/
import Derived.Test.YtjggklfegcejhaaGreatBase
import Derived.Still
namespace Go.Proofs.YtjggklfegcejhaaGreat
open Go.RowKit Go.PlainAid
set_option linter.unusedVariables false
set_option linter.unusedSimpArgs false

section
variable {P : Program} {ops : Array Oper} {S : World → Prop} {K : Act → Prop} {md : Region.Mode}

/-- What a run of one operation comes to: the value v, in a world of the sort S. -/
def givesUpon (P : Program) (S : World → Prop) (v : Value) : Result Next → Prop
  | .ok (.value u) w' => u = v ∧ S w'
  | .ok (.enter f args) w' => Calls P f args w' (fun e w'' => e = .returned v ∧ S w'')
  | _ => False
/-- At a, o gives v in each world of the sort S; or it is not wanted. -/
def GivesAt (P : Program) (ops : Array Oper) (S : World → Prop) (o : Oper) (v : Value) (a : Act) : Prop :=
  (Region.wanted o (yielded ops a.tmps) = true ∧ ∀ w, S w → givesUpon P S v ((execOp a.eval o).run P w)) ∨ (Region.wanted o (yielded ops a.tmps) = false ∧ v = undef)
theorem GivesAt.same {o : Oper} {v : Value} {a a' : Act} (h : GivesAt P ops S o v a) (he : execOp a'.eval o = execOp a.eval o)
    (hw : Region.wanted o (yielded ops a'.tmps) = Region.wanted o (yielded ops a.tmps)) : GivesAt P ops S o v a' := by
  unfold GivesAt at *; rw [he, hw]; exact h
/-- Whatever order is picked: fixed values, and K at the end. -/
def anyG (P : Program) (md : Region.Mode) (ops : Array Oper) (S : World → Prop) (K : Act → Prop) : Nat → Array Bool → Act → Prop
  | 0, listed, a => Region.ready md ops listed = [] ∧ K a
  | n + 1, listed, a => (Region.ready md ops listed = [] → K a) ∧ ∀ j ∈ Region.ready md ops listed, ∃ o v, ops[j]? = some o ∧ GivesAt P ops S o v a ∧ anyG P md ops S K n (listed.setIfInBounds j true) (a.put o.dst v)
theorem anyG_sound {Q : Exit → Act → World → Prop} (hK : ∀ a w, K a → S w → Q .normal a w) : ∀ (n : Nat) (listed : Array Bool) (a : Act) (w : World), S w → anyG P md ops S K n listed a → wpAny P md ops Q n listed a w
  | 0, _, a, w, hS, h => ⟨h.1, hK a w h.2 hS⟩
  | n + 1, listed, a, w, hS, h => by
    refine ⟨fun h0 => hK a w (h.1 h0) hS, fun j hj => ?_⟩
    obtain ⟨o, v, ho, hg, hn⟩ := h.2 j hj
    unfold wpOp
    simp only [ho]
    rcases hg with ⟨hw, hv⟩ | ⟨hw, rfl⟩
    · simp only [hw, if_true]
      refine .inl ?_
      have h1 := hv w hS
      unfold Oper.wp
      generalize (execOp a.eval o).run P w = r at *
      cases r with
      | ok nx w' =>
        cases nx <;> simp only [givesUpon] at h1 <;> simp only [Oper.upon]
        case value u => obtain ⟨rfl, h2⟩ := h1; exact anyG_sound hK n _ _ w' h2 hn
        case enter f args => exact h1.mono fun e w'' ⟨he, hs⟩ => by subst he; exact anyG_sound hK n _ _ w'' hs hn
      | halt x w' => simp only [givesUpon] at h1
    · simp only [hw, Bool.false_eq_true, if_false]
      exact anyG_sound hK n _ _ w hS hn
/-- One that may come up, and is apart from all that need not wait for it, may be taken first. -/
theorem anyG_first {i : Nat} {oi : Oper} {v : Value} (hi : ops[i]? = some oi) (hsel : ∀ (j : Nat) (o : Oper) cs b, ops[j]? = some o → o.op ≠ .select cs b) :
    ∀ (n : Nat) (listed : Array Bool) (a : Act), (∀ j oj, ops[j]? = some oj → j ≠ i → listed.getD j true = false → (∀ e ∈ oj.after, Region.binds md e = true → e.on ≠ i) → oi.apart ops oj = true) →
      i ∈ Region.ready md ops listed → GivesAt P ops S oi v a → anyG P md ops S K n (listed.setIfInBounds i true) (a.put oi.dst v) → anyG P md ops S K (n + 1) listed a := by
  intro n
  induction n with
  | zero =>
    intro listed a _ hr hy H
    refine ⟨fun h => (by rw [h] at hr; cases hr), fun j hj => ?_⟩
    by_cases hji : j = i
    · subst hji; exact ⟨oi, v, hi, hy, H⟩
    · have := ready_mono hj hji
      rw [H.1] at this; cases this
  | succ n ih =>
    intro listed a hfree hr hy H
    refine ⟨fun h => (by rw [h] at hr; cases hr), fun j hj => ?_⟩
    by_cases hji : j = i
    · subst hji; exact ⟨oi, v, hi, hy, H⟩
    · obtain ⟨oj', u, hoj', hgj, hn⟩ := H.2 j (ready_mono hj hji)
      obtain ⟨hjun, oj, hoj, hall⟩ := mem_ready.1 hj
      obtain rfl : oj' = oj := by rw [hoj] at hoj'; exact (Option.some.inj hoj').symm
      have hnot : ∀ e ∈ oj'.after, Region.binds md e = true → e.on ≠ i := fun e he hb heq => by
        have h1 := hall e he hb
        have h0 := (mem_ready.1 hr).1
        rw [heq] at h1
        rcases Nat.lt_or_ge i listed.size with h' | h'
        · simp [h'] at h0 h1; rw [h0] at h1; cases h1
        · simp [Array.getElem?_eq_none h'] at h1
      obtain ⟨a1, a2, a3⟩ := Oper.apart_spec (hfree j oj' hoj hji hjun hnot)
      refine ⟨oj', u, hoj, hgj.same (execOp_put oj' (fun cs b => hsel j oj' cs b hoj) a oi.dst v a1).symm (wanted_put oj' a oi.dst v a1).symm, ?_⟩
      refine ih _ _ (fun k ok hk hki hun hno => hfree k ok hk hki ?_ hno) (ready_mono hr (Ne.symm hji)) (hy.same (execOp_put oi (fun cs b => hsel i oi cs b hi) a oj'.dst u a3) (wanted_put oi a oj'.dst u a3)) ?_
      · by_cases hjk : j = k
        · subst hjk; exact hjun
        · rw [getD_set_ne true hjk] at hun; exact hun
      · rw [Array.setIfInBounds_comm _ _ hji, ← Act.put_comm a v u a2]
        exact hn
/-- The walk in the order of the text. -/
def inText (P : Program) (ops : Array Oper) (S : World → Prop) (K : Act → Prop) : List Oper → Act → Prop
  | [], a => K a
  | o :: l, a => ∃ v, GivesAt P ops S o v a ∧ inText P ops S K l (a.put o.dst v)
/-- Each operation waits for those ahead of it alone. -/
def edgesB (md : Region.Mode) : List Oper → Nat → Bool
  | [], _ => true
  | o :: l, k => (o.after.all fun e => !Region.binds md e || decide (e.on < k)) && edgesB md l (k + 1)
/-- Each operation behind one waits for it, or is apart from it. -/
def apartB (md : Region.Mode) (ops : Array Oper) : List Oper → Nat → Bool
  | [], _ => true
  | o :: l, k => (l.all fun q => q.after.any (fun e => Region.binds md e && e.on == k) || o.apart ops q) && apartB md ops l (k + 1)
theorem edgesB_at : ∀ (l : List Oper) (k i : Nat) (o : Oper), edgesB md l k = true → l[i]? = some o → ∀ e ∈ o.after, Region.binds md e = true → e.on < k + i
  | [], k, i, o, _, h => by simp at h
  | x :: l, k, 0, o, hb, h => fun e he hbi => by
    simp only [edgesB, Bool.and_eq_true, Array.all_eq_true'] at hb
    obtain rfl : x = o := by simpa using h
    have := hb.1 e he
    simp only [hbi, Bool.not_true, Bool.false_or, decide_eq_true_eq] at this
    omega
  | x :: l, k, i + 1, o, hb, h => fun e he hbi => by
    simp only [edgesB, Bool.and_eq_true] at hb
    have := edgesB_at l (k + 1) i o hb.2 (by simpa using h) e he hbi
    omega
theorem apartB_at : ∀ (l : List Oper) (k i j : Nat) (o q : Oper), apartB md ops l k = true → i < j → l[i]? = some o → l[j]? = some q → (∀ e ∈ q.after, Region.binds md e = true → e.on ≠ k + i) → o.apart ops q = true
  | [], k, i, j, o, q, _, _, h, _ => by simp at h
  | x :: l, k, 0, j, o, q, hb, hij, h, hq => fun hno => by
    simp only [apartB, Bool.and_eq_true, List.all_eq_true] at hb
    obtain rfl : x = o := by simpa using h
    obtain ⟨j, rfl⟩ : ∃ m, j = m + 1 := ⟨j - 1, by omega⟩
    have hm : q ∈ l := List.mem_of_getElem? (by simpa using hq)
    have := hb.1 q hm
    simp only [Bool.or_eq_true, Array.any_eq_true'] at this
    rcases this with ⟨e, he, h1⟩ | h1
    · simp only [Bool.and_eq_true, beq_iff_eq] at h1
      exact absurd h1.2 (hno e he h1.1)
    · exact h1
  | x :: l, k, i + 1, j, o, q, hb, hij, h, hq => fun hno => by
    simp only [apartB, Bool.and_eq_true] at hb
    obtain ⟨j, rfl⟩ : ∃ m, j = m + 1 := ⟨j - 1, by omega⟩
    exact apartB_at l (k + 1) i j o q hb.2 (by omega) (by simpa using h) (by simpa using hq) (fun e he hbi => by have := hno e he hbi; omega)
def textB (md : Region.Mode) (l : List Oper) : Bool := Region.noSelect l.toArray && (edgesB md l 0 && apartB md l.toArray l 0)
theorem anyG_text2 {L : List Oper} (hB : textB md L = true) : ∀ (l : List Oper) (k : Nat) (listed : Array Bool) (a : Act), (∀ j, l[j]? = L[k + j]?) → (∀ j, j < L.length → listed.getD j true = decide (j < k)) → listed.size = L.length → inText P L.toArray S K l a → anyG P md L.toArray S K l.length listed a
  | [], k, listed, a, hl, hd, hz, h => by
    refine ⟨List.eq_nil_iff_forall_not_mem.2 fun j hj => ?_, h⟩
    obtain ⟨h1, o, ho, _⟩ := mem_ready.1 hj
    have hjL : j < L.length := by
      have := (Array.getElem?_eq_some_iff.1 ho).1; simpa using this
    have h2 := hd j hjL
    rw [h1] at h2
    have hjk : ¬ j < k := by simpa using h2.symm
    have := hl (j - k)
    rw [show k + (j - k) = j by omega, List.getElem?_eq_getElem hjL] at this
    simp at this
  | o :: l, k, listed, a, hl, hd, hz, h => by
    unfold textB at hB
    simp only [Bool.and_eq_true] at hB
    have h0 : L[k]? = some o := by simpa using (hl 0).symm
    have hkL : k < L.length := (List.getElem?_eq_some_iff.1 h0).1
    have h0' : L.toArray[k]? = some o := by simpa using h0
    obtain ⟨v, hy, hK⟩ := h
    refine anyG_first h0' (Region.noSelect_spec hB.1) l.length listed a (fun j oj hj hjk hun hno => ?_) ?_ hy
      (anyG_text2 (by unfold textB; simp only [Bool.and_eq_true]; exact hB) l (k + 1) _ _ (fun j => by have := hl (j + 1); simpa [Nat.add_assoc, Nat.add_comm 1 j] using this) (fun j hj => ?_) (by simpa using hz) hK)
    · have hj' : L[j]? = some oj := by simpa using hj
      have hjL : j < L.length := (List.getElem?_eq_some_iff.1 hj').1
      have h2 := hd j hjL
      rw [hun] at h2
      have hkj : ¬ j < k := by simpa using h2.symm
      exact apartB_at L 0 k j o oj hB.2.2 (by omega) h0 hj' (fun e he hbi => by rw [Nat.zero_add]; exact hno e he hbi)
    · refine mem_ready.2 ⟨by rw [hd k hkL]; simp, o, h0', fun e he hbi => ?_⟩
      have h2 := edgesB_at L 0 k o hB.2.1 h0 e he hbi
      have h3 := hd e.on (by omega)
      have h4 : e.on < listed.size := by omega
      rw [show decide (e.on < k) = true by simp; omega] at h3
      simpa [h4] using h3
    · by_cases e : k = j
      · subst e; simp [hz, hkL]
      · rw [getD_set_ne true e, hd j hj]; simp; omega
/-- The law: a drawn region, walked in the order of the text. The operations and what follows stay closed while it is walked. -/
theorem region_text {id : Nat} {Q : Exit → Act → World → Prop} {a : Act} {w : World} {l : List Oper} (S : World → Prop) (hm : P.follows .mixedOrders = true) (hB : textB .any l = true) (hS : S w.drew)
    (h : ∀ K : Act → Prop, Hid (∀ a', (∀ w', S w' → Q .normal a' w') → K a') → let OPS := l.toArray; inText P OPS S K l a) : (Code.region id l.toArray true).wp P Q a w := by
  refine wp_region_any hm (anyG_sound (S := S) (K := fun a' => ∀ w', S w' → Q .normal a' w') (fun a w h1 h2 => h1 w h2) _ _ _ _ hS ?_)
  have := anyG_text2 (P := P) (S := S) (K := fun a' => ∀ w', S w' → Q .normal a' w') hB l 0 (Array.replicate l.toArray.size false) a (by simp) (fun j hj => by simp [hj]) (by simp) (h _ (Lib.hid fun _ h => h))
  simpa using this
theorem inText_nil {a : Act} (h : K a) : inText P ops S K [] a := h
theorem inText_val {o : Oper} {l : List Oper} {v : Value} {a a' : Act} (hw : Region.wanted o (yielded ops a.tmps) = true) (hv : ∀ w, S w → (execOp a.eval o).run P w = .ok (.value v) w) (ha : a.put o.dst v = a') (h : inText P ops S K l a') : inText P ops S K (o :: l) a :=
  ⟨v, .inl ⟨hw, fun w hS => by rw [hv w hS]; exact ⟨rfl, hS⟩⟩, by rw [ha]; exact h⟩
theorem inText_skip {o : Oper} {l : List Oper} {a a' : Act} (hw : Region.wanted o (yielded ops a.tmps) = false) (ha : a.put o.dst undef = a') (h : inText P ops S K l a') : inText P ops S K (o :: l) a :=
  ⟨undef, .inr ⟨hw, rfl⟩, by rw [ha]; exact h⟩
theorem inText_call {o : Oper} {l : List Oper} {v : Value} {f : _} {args : _} {a a' : Act} (hw : Region.wanted o (yielded ops a.tmps) = true) (hv : ∀ w, S w → (execOp a.eval o).run P w = .ok (.enter f args) w)
    (hc : ∀ w, S w → Calls P f args w (fun e w' => e = .returned v ∧ S w')) (ha : a.put o.dst v = a') (h : inText P ops S K l a') : inText P ops S K (o :: l) a :=
  ⟨v, .inl ⟨hw, fun w hS => by rw [hv w hS]; exact hc w hS⟩, by rw [ha]; exact h⟩
end
end Go.Proofs.YtjggklfegcejhaaGreat
