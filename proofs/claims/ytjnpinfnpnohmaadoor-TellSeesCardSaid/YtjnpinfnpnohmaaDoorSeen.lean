/- Plain law of TellHides: a thing's list of titles with the thing hidden.; A region that draws its order: taken in an order of one's own: reads that give fixed values in every world of a sort, whenever they come up; all else where it comes up alone.; Contracts of view.Visible and view.Sees, where it is lit and something is reached. -/
import Derived.Test.YtjnpinfnpnohmaaDoorTell4
import Derived.Test.YtjnpinfnpnohmaaDoorMix
import Derived.Test.YtjnpinfnpnohmaaDoorLit
import Derived.Test.YtjnpinfnpnohmaaDoorTail
import Derived.Test.YtjnpinfnpnohmaaDoorShelf
import Derived.Lib.OwnBridge
namespace Go.Proofs.YtjnpinfnpnohmaaDoor
open Go.RowKit Go.PlainAid
set_option linter.unusedVariables false
set_option linter.unusedSimpArgs false

/-- The flags with bit 3 of a number set. -/
def setF (fl : List Int) (x : Int) : List Int := if bitB (atW fl x) 3 = true then fl else fl.set x.toNat (atW fl x + 8)
theorem bit3_off {m : Int} (h : bitB m 3 = false) : m / 8 % 2 ≠ 1 := by
  unfold bitB at h
  exact of_decide_eq_false h
theorem bit3_add {m : Int} (h : bitB m 3 = false) : bitB (m + 8) 3 = true := by
  have := bit3_off h
  unfold bitB
  show decide ((m + 8) / 8 % 2 = 1) = true
  rw [decide_eq_true_eq]; omega
theorem setF_bd {fl : List Int} {x : Int} (hx : x.toNat < fl.length) (h : ∀ m ∈ fl, 0 ≤ m ∧ m ≤ 65535) : ∀ m ∈ setF fl x, 0 ≤ m ∧ m ≤ 65535 := by
  unfold setF
  cases hb : bitB (atW fl x) 3 with
  | true => simpa [hb] using h
  | false =>
    intro m hm
    simp only [Bool.false_eq_true, if_false] at hm
    rcases List.mem_or_eq_of_mem_set hm with h1 | rfl
    · exact h m h1
    · have h2 := bit3_off hb
      have h3 : 0 ≤ atW fl x ∧ atW fl x ≤ 65535 := by rw [atW_get hx]; exact h _ (List.getElem_mem hx)
      omega
theorem setF_len {fl : List Int} {x : Int} : (setF fl x).length = fl.length := by
  unfold setF; split <;> simp
theorem setF_at {fl : List Int} {x c : Int} (hc : 0 ≤ c) (hx0 : 0 ≤ x) (hne : c ≠ x) : atW (setF fl x) c = atW fl c := by
  unfold setF
  split
  · rfl
  · unfold atW
    rw [List.getD_eq_getElem?_getD, List.getElem?_set_ne (by omega), ← List.getD_eq_getElem?_getD]
theorem setF_self {fl : List Int} {x : Int} (hx : x.toNat < fl.length) : bitB (atW (setF fl x) x) 3 = true := by
  unfold setF
  cases hb : bitB (atW fl x) 3 with
  | true => simp [hb]
  | false =>
    simp only [Bool.false_eq_true, if_false]
    have : atW (fl.set x.toNat (atW fl x + 8)) x = atW fl x + 8 := by
      rw [atW_get (by rw [List.length_set]; exact hx)]; simp
    rw [this]; exact bit3_add hb
/-- What is listed with a thing hidden: all that was, but it. -/
theorem shows_set {fl : List Int} {n : Nat} {x : Int} (hl : fl.length = n) (hx : isW n x = true) {L : List Int} (hL : ∀ c ∈ L, isW n c = true) :
    L.filter (showsL (setF fl x)) = (L.filter (showsL fl)).filter (fun c => !(c == x)) := by
  have hxl := isW_lt hx
  have hxs := (isW_spec.1 hx).1
  rw [List.filter_filter]
  refine List.filter_congr fun c hc => ?_
  have hcs := (isW_spec.1 (hL c hc)).1
  by_cases hcx : c = x
  · subst hcx
    unfold showsL
    rw [setF_self (by rw [hl]; exact hxl.1)]
    simp
  · unfold showsL
    rw [setF_at (by omega) (by omega) hcx]
    simp [hcx]
/-- The length of a row. -/
def sumL (ls : List TxC) : Nat := (ls.map List.length).sum
theorem tail_length : ∀ (l : List TxC), (tailP anL coL l).length = sumL l + (if l.length = 0 then 0 else 2 * l.length + 3)
  | [] => rfl
  | [b] => by simp [tailP, sumL, anL]; try omega
  | b :: c :: t => by
    rw [tailP, List.length_append, List.length_append, tail_length (c :: t)]
    simp [sumL, coL]; omega
theorem row_length : ∀ {l : List TxC}, l ≠ [] → (rowT l).length + 2 ≥ sumL l + 2 * l.length ∧ (2 ≤ l.length → (rowT l).length = sumL l + 2 * l.length + 1) ∧ (l.length = 1 → (rowT l).length = sumL l)
  | [], h => absurd rfl h
  | a :: t, _ => by
    have h1 : (rowT (a :: t)).length = a.length + (tailP anL coL t).length := by rw [rowT, List.length_append]
    rw [h1, tail_length]
    have h2 : sumL (a :: t) = a.length + sumL t := by simp [sumL]
    rw [h2, List.length_cons]
    refine ⟨by split <;> omega, fun h => by rw [if_neg (by omega)]; omega, fun h => ?_⟩
    have : t = [] := List.eq_nil_of_length_eq_zero (by omega)
    subst this; simp [sumL]
theorem sum_sub {l m : List TxC} (h : l.Sublist m) : sumL l ≤ sumL m := by
  induction h with
  | slnil => exact Nat.le_refl _
  | cons a _ ih => simp only [sumL, List.map_cons, List.sum_cons] at *; omega
  | cons_cons a _ ih => simp only [sumL, List.map_cons, List.sum_cons] at *; omega
theorem row_less {l m : List TxC} (h : l.Sublist m) (hlt : l.length < m.length) (h0 : 0 < l.length) : (rowT l).length < (rowT m).length := by
  have h1 := sum_sub h
  have h2 := row_length (l := l) (by intro e; subst e; simp at h0)
  have h3 := row_length (l := m) (by intro e; subst e; simp at hlt)
  have h4 := h3.2.1 (by omega)
  rw [h4]
  by_cases h5 : l.length = 1
  · rw [h2.2.2 h5]; omega
  · rw [h2.2.1 (by omega)]; omega
/-- The law: as many listed, the same row; fewer and one at least, a shorter one. -/
theorem hides_law {t : TbC} {fl ch nx : List Int} {n : Nat} {x y : Int} (hl : fl.length = n) (hx : isW n x = true) :
    let A := (kidsW ch nx n y).filter (showsL fl)
    let B := (kidsW ch nx n y).filter (showsL (setF fl x))
    (A.length = B.length → titlesL t (setF fl x) (kidsW ch nx n y) = titlesL t fl (kidsW ch nx n y)) ∧
    B.length ≤ A.length ∧
    (B.length < A.length → 0 < B.length → (rowT (titlesL t (setF fl x) (kidsW ch nx n y))).length < (rowT (titlesL t fl (kidsW ch nx n y))).length) := by
  intro A B
  have hB : B = A.filter (fun c => !(c == x)) := shows_set hl hx (fun c hc => kids_is hc)
  have hs : B.Sublist A := by rw [hB]; exact List.filter_sublist
  refine ⟨fun h => ?_, hs.length_le, fun h h0 => ?_⟩
  · show B.map _ = A.map _
    rw [hs.eq_of_length h.symm]
  · show (rowT (B.map _)).length < (rowT (A.map _)).length
    exact row_less (hs.map _) (by simpa using h) (by simpa using h0)
theorem look_end (t : TbC) (d : WdC) (n : Nat) : ∃ s, lookT t d n = s ++ [10] := by
  unfold lookT
  split
  · exact ⟨_, rfl⟩
  · exact ⟨[73, 116, 32, 105, 115, 32, 100, 97, 114, 107, 46], rfl⟩
theorem look_le {t : TbC} {d : WdC} {n : Nat} (hT : TW t n) (hn : n ≤ 1000) : (lookT t d n).length ≤ 100000000 := by
  unfold lookT
  split
  · rw [List.length_append]
    have hl : (linesT t d n (topOf d.pa n 1)).length ≤ 3 := by
      unfold linesT
      rw [List.length_append, List.length_append]
      have h0 : ∀ a b : Nat, a ≤ 1 → b ≤ 1 → 1 + a + b ≤ 3 := by omega
      refine h0 _ _ ?_ ?_
      · split
        · split <;> simp
        · simp
      · split <;> simp
    have hs : ∀ s ∈ linesT t d n (topOf d.pa n 1), s.length ≤ 2000000 := by
      intro s hs
      unfold linesT at hs
      rw [List.mem_append, List.mem_append] at hs
      rcases hs with (h | h) | h
      · rw [List.mem_singleton] at h
        subst h
        have := title_le hT.tx (topOf d.pa n 1)
        omega
      · split at h
        · split at h
          · cases h
          · rw [List.mem_singleton] at h
            subst h
            rename_i y _ _
            have := text_le hT.tx y.tx
            omega
        · cases h
      · split at h
        · cases h
        · rw [List.mem_singleton] at h
          subst h
          have h1 := row_le (titles_le (t := t) (fl := d.fl) (l := kidsW d.ch d.nx n (topOf d.pa n 1)) hT.tx)
          have h2 := Nat.le_trans (titles_len (t := t) (fl := d.fl) (l := kidsW d.ch d.nx n (topOf d.pa n 1))) (kids_len d.ch d.nx n (topOf d.pa n 1))
          rw [List.length_append, List.length_append]
          have h3 : seeL.length = 8 := rfl
          have h4 : ([46] : TxC).length = 1 := rfl
          omega
    have := join_le (sep := [10]) (B := 2000000) (by decide) _ hs
    have h5 : ([10] : TxC).length = 1 := rfl
    have h6 : (linesT t d n (topOf d.pa n 1)).length * (2 * 2000000) ≤ 3 * (2 * 2000000) := Nat.mul_le_mul_right _ hl
    omega
  · decide
theorem look_dark {t : TbC} {d : WdC} {n : Nat} (h : litB d n = false) : lookT t d n = darkL := by
  unfold lookT; rw [h]; rfl
/-- A world with other flags. -/
theorem WOk.with_ {w w' : World} {q : Wv} {d : WdC} {n : Nat} {x : Int} {a : Option Addr} {c : Nat} (h : WOk w q d n) (hx : isW n x = true) (hb : Below w.heap.size w w') (hr : RowI w' (.slice a n c) (setF d.fl x)) :
    WOk w' { q with a4 := a, c4 := c } { d with fl := setF d.fl x } n := by
  have h' := h.below hb
  have hl : d.fl.length = n := by rw [← h.is.fl.len, h.l4]
  exact ⟨⟨h'.is.gl, h'.is.pa, h'.is.ch, h'.is.nx, by rw [← h.l4] at hr; exact hr, h'.is.pr, h'.is.ti, h'.is.i1, h'.is.i2, h'.is.i3, h'.is.i4, h'.is.i5⟩, ⟨h.len.h1, h.len.h2, h.len.h3, h.len.few⟩, h.l4, h.pos, h.few, setF_bd (by rw [hl]; exact (isW_lt hx).1) h.fl, h.nest⟩
end Go.Proofs.YtjnpinfnpnohmaaDoor
namespace Go.Proofs.YtjnpinfnpnohmaaDoor
open Go.RowKit Go.PlainAid
set_option linter.unusedVariables false
set_option linter.unusedSimpArgs false

section
variable {P : Program} {ops : Array Oper} {S : World → Prop} {md : Region.Mode}
theorem anyM_free {i : Nat} {oi : Oper} {v : Value} {L : Array Bool → Act → World → Prop} (hi : ops[i]? = some oi) (hsel : ∀ (j : Nat) (o : Oper) cs b, ops[j]? = some o → o.op ≠ .select cs b)
    (hdone : ∀ listed a w, L listed a w → Region.ready md ops listed = []) :
    ∀ (f : Nat) (listed : Array Bool) (a : Act) (w : World),
      (∀ j oj, ops[j]? = some oj → j ≠ i → listed.getD j true = false → (∀ e ∈ oj.after, Region.binds md e = true → e.on ≠ i) → oi.apart ops oj = true) →
      i ∈ Region.ready md ops listed → ReadsAt P ops S oi v a → S w →
      anyM P md ops S ops.size L f (listed.setIfInBounds i true) (a.put oi.dst v) w → anyM P md ops S ops.size L (f + 1) listed a w := by
  intro f
  induction f with
  | zero =>
    intro listed a w _ hr hy hS H
    refine ⟨fun h => (by rw [h] at hr; cases hr), fun j hj => ?_⟩
    obtain ⟨_, oj, hoj, _⟩ := mem_ready.1 hj
    refine ⟨(Array.getElem?_eq_some_iff.1 hoj).1, ?_⟩
    by_cases hji : j = i
    · subst hji; exact ⟨oi, hi, hy.gives hS H⟩
    · have h1 := ready_mono hj hji
      rw [hdone _ _ _ H] at h1
      cases h1
  | succ f ih =>
    intro listed a w hfree hr hy hS H
    have hun := (mem_ready.1 hr).1
    refine ⟨fun h => (by rw [h] at hr; cases hr), fun j hj => ?_⟩
    obtain ⟨hjun, oj, hoj, hall⟩ := mem_ready.1 hj
    refine ⟨(Array.getElem?_eq_some_iff.1 hoj).1, ?_⟩
    by_cases hji : j = i
    · subst hji; exact ⟨oi, hi, hy.gives hS H⟩
    · obtain ⟨_, oj', hoj', hgj⟩ := H.2 j (ready_mono hj hji)
      obtain rfl : oj' = oj := by rw [hoj] at hoj'; exact (Option.some.inj hoj').symm
      have hnot : ∀ e ∈ oj'.after, Region.binds md e = true → e.on ≠ i := fun e he hb heq => by
        have h1 := hall e he hb
        rw [heq, getD_both hun] at h1
        cases h1
      obtain ⟨a1, a2, a3⟩ := Oper.apart_spec (hfree j oj' hoj hji hjun hnot)
      refine ⟨oj', hoj, (hgj.same (execOp_put oj' (fun cs b => hsel j oj' cs b hoj) a oi.dst v a1).symm (wanted_put oj' a oi.dst v a1).symm).mono fun u w' hS' hnx => ?_⟩
      refine ih _ _ w' (fun k ok hk hki hun' hno => hfree k ok hk hki ?_ hno) (ready_mono hr (Ne.symm hji)) (hy.same (execOp_put oi (fun cs b => hsel i oi cs b hi) a oj'.dst u a3) (wanted_put oi a oj'.dst u a3)) hS' ?_
      · by_cases hjk : j = k
        · subst hjk; exact hjun
        · rw [getD_set_ne true hjk] at hun'; exact hun'
      · rw [Array.setIfInBounds_comm _ _ hji, ← Act.put_comm a v u a2]
        exact hnx
/-- In an order of one's own: true: a read. -/
def inOrd (P : Program) (ops : Array Oper) (S : World → Prop) (K : Act → World → Prop) : List (Nat × Bool) → Act → World → Prop
  | [], a, w => K a w
  | (i, true) :: l, a, w => ∃ o v, ops[i]? = some o ∧ ReadsAt P ops S o v a ∧ inOrd P ops S K l (a.put o.dst v) w
  | (i, false) :: l, a, w => ∃ o, ops[i]? = some o ∧ GivesM P ops S o a w (fun u w' => inOrd P ops S K l (a.put o.dst u) w')
/-- What is to be looked at, once. -/
def ordB (md : Region.Mode) (ops : Array Oper) : List (Nat × Bool) → Array Bool → Bool
  | [], listed => (Region.ready md ops listed).isEmpty
  | (i, true) :: l, listed => (Region.ready md ops listed).contains i && Region.free md ops listed i && ordB md ops l (listed.setIfInBounds i true)
  | (i, false) :: l, listed => decide (Region.ready md ops listed = [i]) && ordB md ops l (listed.setIfInBounds i true)
theorem anyM_ord {K : Act → World → Prop} (hsel : Region.noSelect ops = true) : ∀ (l : List (Nat × Bool)) (listed : Array Bool) (a : Act) (w : World), ordB md ops l listed = true → S w → inOrd P ops S K l a w →
    anyM P md ops S ops.size (fun listed' a' w' => Region.ready md ops listed' = [] ∧ K a' w') l.length listed a w
  | [], listed, a, w, hB, _, h => ⟨by simpa [ordB, List.isEmpty_iff] using hB, h⟩
  | (i, true) :: l, listed, a, w, hB, hS, h => by
    simp only [ordB, Bool.and_eq_true] at hB
    obtain ⟨⟨hr, hf⟩, hB'⟩ := hB
    obtain ⟨o, v, ho, hy, hK⟩ := h
    exact anyM_free ho (Region.noSelect_spec hsel) (fun _ _ _ h => h.1) l.length listed a w (Region.free_spec ho hf) (by simpa using hr) hy hS (anyM_ord hsel l _ _ w hB' hS hK)
  | (i, false) :: l, listed, a, w, hB, hS, h => by
    simp only [ordB, Bool.and_eq_true, decide_eq_true_eq] at hB
    obtain ⟨o, ho, hg⟩ := h
    refine ⟨by rw [hB.1]; simp, fun j hj => ?_⟩
    have hji : j = i := by rw [hB.1] at hj; simpa using hj
    subst hji
    exact ⟨(Array.getElem?_eq_some_iff.1 ho).1, o, ho, GivesM.mono (fun u w' hS' hn => anyM_ord hsel l _ _ w' hB.2 hS' hn) hg⟩
/-- The same, the operations written out. -/
def inOrdL (P : Program) (ops : Array Oper) (S : World → Prop) (K : Act → World → Prop) : List (Option Oper × Bool) → Act → World → Prop
  | [], a, w => K a w
  | (some o, true) :: l, a, w => ∃ v, ReadsAt P ops S o v a ∧ inOrdL P ops S K l (a.put o.dst v) w
  | (some o, false) :: l, a, w => GivesM P ops S o a w (fun u w' => inOrdL P ops S K l (a.put o.dst u) w')
  | (none, _) :: _, _, _ => False
theorem inOrdL_of {K : Act → World → Prop} {L : List Oper} : ∀ (rs : List (Nat × Bool)) (a : Act) (w : World), inOrdL P L.toArray S K (rs.map fun p => (L[p.1]?, p.2)) a w → inOrd P L.toArray S K rs a w
  | [], _, _, h => h
  | (i, true) :: rs, a, w, h => by
    cases ho : L[i]? with
    | none => simp only [List.map_cons, ho, inOrdL] at h
    | some o =>
      simp only [List.map_cons, ho, inOrdL] at h
      obtain ⟨v, hy, hK⟩ := h
      exact ⟨o, v, by simpa using ho, hy, inOrdL_of rs _ _ hK⟩
  | (i, false) :: rs, a, w, h => by
    cases ho : L[i]? with
    | none => simp only [List.map_cons, ho, inOrdL] at h
    | some o =>
      simp only [List.map_cons, ho, inOrdL] at h
      exact ⟨o, by simpa using ho, GivesM.mono (fun u w' _ hK => inOrdL_of rs _ _ hK) h⟩
/-- The law. -/
theorem region_ord {id : Nat} {Q : Exit → Act → World → Prop} {a : Act} {w : World} {l : List Oper} (rs : List (Nat × Bool)) (S : World → Prop) (hm : P.follows .mixedOrders = true)
    (hB : (Region.noSelect l.toArray && (rs.length == l.length) && ordB .any l.toArray rs (Array.replicate l.length false)) = true) (hS : S w.drew)
    (h : ∀ K : Act → World → Prop, Hid (∀ a' w', Q .normal a' w' → K a' w') → let OPS := l.toArray; inOrdL P OPS S K (rs.map fun p => (l[p.1]?, p.2)) a w.drew) : (Code.region id l.toArray true).wp P Q a w := by
  simp only [Bool.and_eq_true, beq_iff_eq] at hB
  obtain ⟨⟨hsel, hln⟩, ho⟩ := hB
  refine wp_region_any hm ?_
  have H := anyM_ord (P := P) (S := S) (md := .any) (K := fun a' w' => Q .normal a' w') hsel rs (Array.replicate l.length false) a w.drew ho hS (inOrdL_of rs a w.drew (h _ (Lib.hid fun _ _ h => h)))
  have := anyM_sound (P := P) (S := S) (Q := Q) (g := 0) (fun listed a' w' hL => ⟨hL.1, hL.2⟩) _ _ _ _ H
  rw [Nat.add_zero, hln] at this
  simpa using this
theorem inOrd_nil {K : Act → World → Prop} {a : Act} {w : World} (h : K a w) : inOrdL P ops S K [] a w := h
theorem inOrd_read {K : Act → World → Prop} {o : Oper} {l : List (Option Oper × Bool)} {v : Value} {a a' : Act} {w : World} (hw : Region.wanted o (yielded ops a.tmps) = true) (hv : ∀ w, S w → (execOp a.eval o).run P w = .ok (.value v) w) (ha : a.put o.dst v = a') (h : inOrdL P ops S K l a' w) : inOrdL P ops S K ((some o, true) :: l) a w :=
  ⟨v, .inl ⟨hw, hv⟩, by rw [ha]; exact h⟩
theorem inOrd_val {K : Act → World → Prop} {o : Oper} {l : List (Option Oper × Bool)} {v : Value} {a a' : Act} {w w' : World} (hw : Region.wanted o (yielded ops a.tmps) = true) (hv : (execOp a.eval o).run P w = .ok (.value v) w') (hS : S w') (ha : a.put o.dst v = a') (h : inOrdL P ops S K l a' w') : inOrdL P ops S K ((some o, false) :: l) a w :=
  .inl ⟨hw, by rw [hv]; exact ⟨hS, by subst ha; exact h⟩⟩
theorem inOrd_call {K : Act → World → Prop} {o : Oper} {l : List (Option Oper × Bool)} {f : _} {args : _} {a : Act} {w : World} (hw : Region.wanted o (yielded ops a.tmps) = true) (hv : (execOp a.eval o).run P w = .ok (.enter f args) w)
    (hc : Calls P f args w (fun e w'' => ∃ u, e = .returned u ∧ S w'' ∧ inOrdL P ops S K l (a.put o.dst u) w'')) : inOrdL P ops S K ((some o, false) :: l) a w :=
  .inl ⟨hw, by rw [hv]; exact hc⟩
end
end Go.Proofs.YtjnpinfnpnohmaaDoor
namespace Go.Proofs.YtjnpinfnpnohmaaDoor
open Go.RowKit Go.PlainAid Go.Shelf
set_option linter.unusedVariables false
set_option linter.unusedSimpArgs false

/-- The function handed over: is it the player? -/
theorem vis1 (v : Int) (W : World) : FnGives Tryd.prog 94 #[] #[.int .i64 v] (.bool (v == 1)) W := by
  show Calls Tryd.prog 94 #[.int .i64 v] W _
  go_enter Tryd.func94, Tryd.ntmps94
  go_wp2
  go_ret
  exact ⟨rfl, 0, rfl⟩
theorem deleteC (B : Nat) (v : Value) (L : List Int) (w : World) (h : OwnInts B w v L) (hn : 0 < L.length) (hm : L.length ≤ 1000000) :
    Calls Tryd.prog 93 #[v, .func (.func 94) #[] #[]] w fun e w' => ∃ v', e = .returned v' ∧ w'.ownsRow B 3 1 v' (L.filter fun x => !(x == 1)).length ((L.filter fun x => !(x == 1)).map (Value.int .i64)) ∧ Below B w w' := by
  have hne : v ≠ .slice none 0 0 := by
    intro e; subst e
    obtain ⟨a, c, h2⟩ := h.shape
    simp only [Value.slice.injEq] at h2
    omega
  obtain ⟨g, cap, rfl, hbg, hgl, hnc, hcm, _, hH⟩ := Lib.holds_of_ownsRow (zs := L) h.1 hne
  have hd := AnyE.slices_DeleteFunc Tryd.delInts (Value.int .i64) (fun _ => rfl) (fun x => x == 1) 94 #[] (enters_of Tryd.func94 (by kernel_rfl) rfl) 0 Tryd.zeroValue3 g 0 cap L.toArray w
    (fun W x _ => vis1 x W) (fun n os dk x _ => vis1 x _) hH (by simp; omega) (by simpa using hnc)
  have hk : (L.filter fun x => !(x == 1)).length ≤ L.length := List.length_filter_le _ _
  rw [List.size_toArray] at hd
  refine Calls.mono hd ?_
  rintro e w' ⟨rfl, q, rfl⟩
  refine ⟨_, rfl, ?_, Lib.below_putRow (Below.refl _ _) hbg⟩
  have := Lib.ownsRow_putRow (q := q) (k := (L.filter fun x => !(x == 1)).length) (ys := (L.filter fun x => !(x == 1)) ++ List.replicate (L.length - (L.filter fun x => !(x == 1)).length) 0) h.1 (by simp; omega) hk
  simpa using this
set_option maxRecDepth 100000 in
/-- slices.Collect over what is reached. -/
theorem collectReach (q : Wv) (d : WdC) (x : Int) (n B : Nat) (w : World) (hW : WOk w q d n) (hB : BK w B (worldC q) 34) (hX : BK w (B + 1) [.int .i64 x] 3) (hL : (reachV d n x).length ≤ 1000000) :
    Calls Tryd.prog 59 #[.func (.func 85) #[] #[.pointer (some ⟨B, 0, none⟩), .pointer (some ⟨B + 1, 0, none⟩)]] w (RetInts w (reachV d n x)) := by
  have hb := bl_a (Below.refl w.heap.size w) (.cells #[.slice none 0 0] 23)
  have hbx := Boxed.new w 23 (.slice none 0 0)
  have hs := reachSeq q d x n B w.heap.size w.heap.size (w.alloc (.cells #[.slice none 0 0] 23)) (hW.below hb) (hB.below hb) (hX.below hb) hW.is.lowL hb.size ⟨by rw [World.size_alloc]; omega, fun g hg => by
    rw [boxed_ptr hbx] at hg; cases hg⟩
  refine (collectC _ _ (enters_of Tryd.func85 (by kernel_rfl) rfl) w.heap.size w (reachV d n x) (Nat.le_refl _) hL hs).mono ?_
  rintro e w' ⟨v, he, h3, h4, h5⟩
  exact ⟨v, he, ⟨h3, h4⟩, h5⟩
set_option maxRecDepth 100000 in
set_option maxHeartbeats 8000000 in
theorem visibleC (x : TAd) (t : TbC) (q : Wv) (d : WdC) (n : Nat) (w : World) (hW : WOk w q d n) (hl : litB d n = true) (h0 : 0 < (reachV d n (topOf d.pa n 1)).length) (hL : (reachV d n (topOf d.pa n 1)).length ≤ 1000000) :
    Calls Tryd.prog 63 #[tabV x t, worldV q] w fun e w' => ∃ v, e = .returned v ∧ w'.ownsRow w.heap.size 3 1 v ((reachV d n (topOf d.pa n 1)).filter fun x => !(x == 1)).length (((reachV d n (topOf d.pa n 1)).filter fun x => !(x == 1)).map (Value.int .i64)) ∧ Below w.heap.size w w' := by
  have hnew := Two.new x t q w
  obtain ⟨W0, hW0⟩ : ∃ W0, (w.alloc (.cells (tabC x t).toArray 28)).alloc (.cells (worldC q).toArray 34) = W0 := ⟨_, rfl⟩
  rw [hW0] at hnew
  have HLIT := Lib.hid (fun w' (hb : Below w.heap.size w w') => litC x t q d n w' (hW.below hb))
  rw [hl] at HLIT
  have HHERE := Lib.hid (fun w' (hb : Below w.heap.size w w') => hereC q d n w' (hW.below hb))
  have HMK := Lib.hid (fun c w' => mkReached q c w')
  have HCO := Lib.hid (fun B w' (hb : Below w.heap.size w w') hB hX => collectReach q d (topOf d.pa n 1) n B w' (hW.below hb) hB hX hL)
  generalize topOf d.pa n 1 = room at *
  generalize reachV d n room = L at *
  have HDE := Lib.hid (fun v w' (h : OwnInts w.heap.size w' v L) => deleteC w.heap.size v L w' h h0 hL)
  generalize (L.filter fun x => !(x == 1)) = L2 at *
  have HM := Lib.hid (And.intro h0 hL)
  clear hW hl h0 hL
  have HTW := Lib.hid (hnew)
  have HTWt := Lib.hid HTW.out.bt
  have HTWw := Lib.hid HTW.out.bw
  have kt0 := HTWt.out.cell 0
  have kt1 := HTWt.out.cell 1
  have kt2 := HTWt.out.cell 2
  have kt3 := HTWt.out.cell 3
  have kt4 := HTWt.out.cell 4
  have kt5 := HTWt.out.cell 5
  have kt6 := HTWt.out.cell 6
  have kt7 := HTWt.out.cell 7
  have kt8 := HTWt.out.cell 8
  have kt9 := HTWt.out.cell 9
  have kt10 := HTWt.out.cell 10
  have kt11 := HTWt.out.cell 11
  have kt12 := HTWt.out.cell 12
  have kt13 := HTWt.out.cell 13
  have kt14 := HTWt.out.cell 14
  simp only [tabC, List.getElem?_cons_zero, List.getElem?_cons_succ] at kt0 kt1 kt2 kt3 kt4 kt5 kt6 kt7 kt8 kt9 kt10 kt11 kt12 kt13 kt14
  have b0 := HTWw.out.cell 0
  have b1 := HTWw.out.cell 1
  have b2 := HTWw.out.cell 2
  have b3 := HTWw.out.cell 3
  have b4 := HTWw.out.cell 4
  have b5 := HTWw.out.cell 5
  have b6 := HTWw.out.cell 6
  have b7 := HTWw.out.cell 7
  have b8 := HTWw.out.cell 8
  have b9 := HTWw.out.cell 9
  have bA := HTWw.out.cell 10
  have bB := HTWw.out.cell 11
  have bC := HTWw.out.cell 12
  simp only [worldC, List.getElem?_cons_zero, List.getElem?_cons_succ] at b0 b1 b2 b3 b4 b5 b6 b7 b8 b9 bA bB bC
  clear hnew
  unfold tabV worldV at *
  go_enter Tryd.func63, Tryd.ntmps63
  unfold worldC at HLIT HHERE HMK hW0 ⊢
  unfold tabC at HLIT hW0 ⊢
  go_wp2_with fail
  clear hW0
  refine (HLIT.out _ HTW.out.bl).mono ?_
  rintro e w1 ⟨rfl, hb1⟩
  have hnew := HTW.out.below hb1
  clear kt0 kt1 kt2 kt3 kt4 kt5 kt6 kt7 kt8 kt9 kt10 kt11 kt12 kt13 kt14
  clear b0 b1 b2 b3 b4 b5 b6 b7 b8 b9 bA bB bC
  clear HTWt HTWw
  clear HTW
  have HTW := Lib.hid (hnew)
  have HTWt := Lib.hid HTW.out.bt
  have HTWw := Lib.hid HTW.out.bw
  have kt0 := HTWt.out.cell 0
  have kt1 := HTWt.out.cell 1
  have kt2 := HTWt.out.cell 2
  have kt3 := HTWt.out.cell 3
  have kt4 := HTWt.out.cell 4
  have kt5 := HTWt.out.cell 5
  have kt6 := HTWt.out.cell 6
  have kt7 := HTWt.out.cell 7
  have kt8 := HTWt.out.cell 8
  have kt9 := HTWt.out.cell 9
  have kt10 := HTWt.out.cell 10
  have kt11 := HTWt.out.cell 11
  have kt12 := HTWt.out.cell 12
  have kt13 := HTWt.out.cell 13
  have kt14 := HTWt.out.cell 14
  simp only [tabC, List.getElem?_cons_zero, List.getElem?_cons_succ] at kt0 kt1 kt2 kt3 kt4 kt5 kt6 kt7 kt8 kt9 kt10 kt11 kt12 kt13 kt14
  have b0 := HTWw.out.cell 0
  have b1 := HTWw.out.cell 1
  have b2 := HTWw.out.cell 2
  have b3 := HTWw.out.cell 3
  have b4 := HTWw.out.cell 4
  have b5 := HTWw.out.cell 5
  have b6 := HTWw.out.cell 6
  have b7 := HTWw.out.cell 7
  have b8 := HTWw.out.cell 8
  have b9 := HTWw.out.cell 9
  have bA := HTWw.out.cell 10
  have bB := HTWw.out.cell 11
  have bC := HTWw.out.cell 12
  simp only [worldC, List.getElem?_cons_zero, List.getElem?_cons_succ] at b0 b1 b2 b3 b4 b5 b6 b7 b8 b9 bA bB bC
  clear hnew
  clear hb1
  have hlt0 : w.heap.size < w1.heap.size := HTW.out.bt.lt
  have hlt1 : w.heap.size + 1 < w1.heap.size := HTW.out.bw.lt
  go_wp2_with fail
  refine region_tail 3 (fun w' => Below w1.heap.size w1 w') (by kernel_rfl) (by kernel_rfl) ((Below.refl _ _).drew) (fun KK hKK => ?_)
  intro OPS
  simp only [List.append, List.take]
  repeat (first
    | (refine' inText_val ?_ ?_ ?_ ?_
       rotate_left 2
       · rfl
       · (intro w' hS; obtain ⟨hcc, hff⟩ := bcell hS; go_simp; first | with_reducible rfl | skip)
       · (simp only [Act.put, List.setIfInBounds_toArray, List.set_cons_zero, List.set_cons_succ]; with_reducible rfl))
    | (refine' inText_call ?_ ?_ ?_ ?_ ?_
       rotate_left 4
       · rfl
       · (intro w' hS; obtain ⟨hcc, hff⟩ := bcell hS; go_simp; exact ⟨rfl, rfl⟩)
       · (intro w' hS
          ((with_reducible refine (HHERE.out w' (bl_then HTW.out.bl hS)).mono ?_); exact fun e w'' h => ⟨h.1, bl_then hS h.2⟩))
       · (simp only [Act.put, List.setIfInBounds_toArray, List.set_cons_zero, List.set_cons_succ]; with_reducible rfl)))
  refine inText_nil (hKK.out _ (fun w3 hS => ?_))
  simp only [List.drop]
  clear hKK
  have HB3 := Lib.hid (bl_then HTW.out.bl hS)
  clear hS
  clear kt0 kt1 kt2 kt3 kt4 kt5 kt6 kt7 kt8 kt9 kt10 kt11 kt12 kt13 kt14
  clear b0 b1 b2 b3 b4 b5 b6 b7 b8 b9 bA bB bC
  clear HTWt HTWw
  go_wp2_with fail
  refine (HMK.out _ _).mono ?_
  rintro e w4 ⟨rfl, hb4, k1, k2⟩
  have HB4 := Lib.hid (bl_then HB3.out hb4)
  have HK1 := Lib.hid k1
  have HK2 := Lib.hid k2
  clear hb4 k1 k2
  go_wp2_with fail
  refine (HCO.out _ _ HB4.out HK1.out HK2.out).mono ?_
  rintro e w5 ⟨v, rfl, ho, hb5⟩
  obtain ⟨a, c, rfl⟩ := ho.shape
  have HO := Lib.hid (ho.base HB4.out.size)
  have HB5 := Lib.hid (bl_then HB4.out hb5)
  clear ho hb5
  go_wp2_with fail
  refine (HDE.out _ _ HO.out).mono ?_
  rintro e w6 ⟨v6, rfl, ho6, hb6⟩
  obtain ⟨a6, c6, rfl⟩ := ow_shape ho6
  have HO6 := Lib.hid ho6
  have HB6 := Lib.hid (HB5.out.trans hb6)
  clear ho6 hb6
  go_wp2
  go_ret
  exact ⟨_, rfl, HO6.out, HB6.out⟩
set_option maxRecDepth 100000 in
set_option maxHeartbeats 8000000 in
/-- What is reached, and is not the player, is seen where it is lit. -/
theorem seesC (x : TAd) (t : TbC) (q : Wv) (d : WdC) (n : Nat) (y : Int) (w : World) (hW : WOk w q d n) (hl : litB d n = true) (hy : y ∈ reachV d n (topOf d.pa n 1)) (hy1 : y ≠ 1) (hL : (reachV d n (topOf d.pa n 1)).length ≤ 1000000) :
    Calls Tryd.prog 30 #[tabV x t, worldV q, .int .i64 y] w fun e w' => e = .returned (.bool true) ∧ Below w.heap.size w w' := by
  have hnew := Two.new x t q w
  obtain ⟨W0, hW0⟩ : ∃ W0, (w.alloc (.cells (tabC x t).toArray 28)).alloc (.cells (worldC q).toArray 34) = W0 := ⟨_, rfl⟩
  rw [hW0] at hnew
  have HHERE := Lib.hid (fun w' (hb : Below w.heap.size w w') => hereC q d n w' (hW.below hb))
  have HV := Lib.hid (fun w' (hb : Below w.heap.size w w') => visibleC x t q d n w' (hW.below hb) hl (List.length_pos_of_mem hy) hL)
  have hm : y ∈ (reachV d n (topOf d.pa n 1)).filter fun x => !(x == 1) := by rw [List.mem_filter]; exact ⟨hy, by simp [hy1]⟩
  have hle : ((reachV d n (topOf d.pa n 1)).filter fun x => !(x == 1)).length ≤ 1000000 := Nat.le_trans (List.length_filter_le _ _) hL
  generalize ((reachV d n (topOf d.pa n 1)).filter fun x => !(x == 1)) = L2 at *
  generalize topOf d.pa n 1 = room at *
  have HCT : Hid (∀ (B : Nat) (w' : World) (v : Value), w'.ownsRow B 3 1 v L2.length (L2.map (Value.int .i64)) →
      Calls Tryd.prog 62 #[v, .int .i64 y] w' fun e w'' => e = .returned (.bool true) ∧ w'' = w') := Lib.hid (fun B w' v ho => by
    have hp := List.length_pos_of_mem hm
    obtain ⟨g, cap, rfl, hbg, hgl, hnc, hcm, _, hH⟩ := Lib.holds_of_ownsRow (zs := L2) ho (by intro e; subst e; obtain ⟨a, c, h2⟩ := ow_shape ho; simp only [Value.slice.injEq] at h2; omega)
    refine (Tryd.slices_Contains_int g 0 L2.length cap L2 y w' (Nat.le_refl _) (by omega) (fun j hj => ?_)).mono ?_
    · have := (hH j (by simpa using hj)).1
      rw [this]; simp [hj]
    · rintro e w'' ⟨rfl, rfl⟩
      refine ⟨?_, rfl⟩
      rw [List.take_length]
      simp [hm])
  have hyb : (y == 1) = false := by simp [hy1]
  clear hW hl hy hL hy1
  have HTW := Lib.hid (hnew)
  have HTWt := Lib.hid HTW.out.bt
  have HTWw := Lib.hid HTW.out.bw
  have kt0 := HTWt.out.cell 0
  have kt1 := HTWt.out.cell 1
  have kt2 := HTWt.out.cell 2
  have kt3 := HTWt.out.cell 3
  have kt4 := HTWt.out.cell 4
  have kt5 := HTWt.out.cell 5
  have kt6 := HTWt.out.cell 6
  have kt7 := HTWt.out.cell 7
  have kt8 := HTWt.out.cell 8
  have kt9 := HTWt.out.cell 9
  have kt10 := HTWt.out.cell 10
  have kt11 := HTWt.out.cell 11
  have kt12 := HTWt.out.cell 12
  have kt13 := HTWt.out.cell 13
  have kt14 := HTWt.out.cell 14
  simp only [tabC, List.getElem?_cons_zero, List.getElem?_cons_succ] at kt0 kt1 kt2 kt3 kt4 kt5 kt6 kt7 kt8 kt9 kt10 kt11 kt12 kt13 kt14
  have b0 := HTWw.out.cell 0
  have b1 := HTWw.out.cell 1
  have b2 := HTWw.out.cell 2
  have b3 := HTWw.out.cell 3
  have b4 := HTWw.out.cell 4
  have b5 := HTWw.out.cell 5
  have b6 := HTWw.out.cell 6
  have b7 := HTWw.out.cell 7
  have b8 := HTWw.out.cell 8
  have b9 := HTWw.out.cell 9
  have bA := HTWw.out.cell 10
  have bB := HTWw.out.cell 11
  have bC := HTWw.out.cell 12
  simp only [worldC, List.getElem?_cons_zero, List.getElem?_cons_succ] at b0 b1 b2 b3 b4 b5 b6 b7 b8 b9 bA bB bC
  clear hnew
  unfold tabV worldV at *
  by_cases hyr : y = room
  · have hyr2 : (y == room) = true := by simp [hyr]
    clear hyr
    go_enter Tryd.func30, Tryd.ntmps30
    unfold worldC at HHERE HV hW0 ⊢
    unfold tabC at HV hW0 ⊢
    go_wp2_with fail
    clear hW0
    refine (HHERE.out _ HTW.out.bl).mono ?_
    rintro e w1 ⟨rfl, hb1⟩
    have hnew := HTW.out.below hb1
    clear kt0 kt1 kt2 kt3 kt4 kt5 kt6 kt7 kt8 kt9 kt10 kt11 kt12 kt13 kt14
    clear b0 b1 b2 b3 b4 b5 b6 b7 b8 b9 bA bB bC
    clear HTWt HTWw
    clear HTW
    have HTW := Lib.hid (hnew)
    have HTWt := Lib.hid HTW.out.bt
    have HTWw := Lib.hid HTW.out.bw
    have kt0 := HTWt.out.cell 0
    have kt1 := HTWt.out.cell 1
    have kt2 := HTWt.out.cell 2
    have kt3 := HTWt.out.cell 3
    have kt4 := HTWt.out.cell 4
    have kt5 := HTWt.out.cell 5
    have kt6 := HTWt.out.cell 6
    have kt7 := HTWt.out.cell 7
    have kt8 := HTWt.out.cell 8
    have kt9 := HTWt.out.cell 9
    have kt10 := HTWt.out.cell 10
    have kt11 := HTWt.out.cell 11
    have kt12 := HTWt.out.cell 12
    have kt13 := HTWt.out.cell 13
    have kt14 := HTWt.out.cell 14
    simp only [tabC, List.getElem?_cons_zero, List.getElem?_cons_succ] at kt0 kt1 kt2 kt3 kt4 kt5 kt6 kt7 kt8 kt9 kt10 kt11 kt12 kt13 kt14
    have b0 := HTWw.out.cell 0
    have b1 := HTWw.out.cell 1
    have b2 := HTWw.out.cell 2
    have b3 := HTWw.out.cell 3
    have b4 := HTWw.out.cell 4
    have b5 := HTWw.out.cell 5
    have b6 := HTWw.out.cell 6
    have b7 := HTWw.out.cell 7
    have b8 := HTWw.out.cell 8
    have b9 := HTWw.out.cell 9
    have bA := HTWw.out.cell 10
    have bB := HTWw.out.cell 11
    have bC := HTWw.out.cell 12
    simp only [worldC, List.getElem?_cons_zero, List.getElem?_cons_succ] at b0 b1 b2 b3 b4 b5 b6 b7 b8 b9 bA bB bC
    clear hnew
    clear hb1
    go_wp2_with fail
    go_ret
    exact ⟨rfl, HTW.out.bl⟩
  · have hyr2 : (y == room) = false := by simp [hyr]
    clear hyr
    go_enter Tryd.func30, Tryd.ntmps30
    unfold worldC at HHERE HV hW0 ⊢
    unfold tabC at HV hW0 ⊢
    go_wp2_with fail
    clear hW0
    refine (HHERE.out _ HTW.out.bl).mono ?_
    rintro e w1 ⟨rfl, hb1⟩
    have hnew := HTW.out.below hb1
    clear kt0 kt1 kt2 kt3 kt4 kt5 kt6 kt7 kt8 kt9 kt10 kt11 kt12 kt13 kt14
    clear b0 b1 b2 b3 b4 b5 b6 b7 b8 b9 bA bB bC
    clear HTWt HTWw
    clear HTW
    have HTW := Lib.hid (hnew)
    have HTWt := Lib.hid HTW.out.bt
    have HTWw := Lib.hid HTW.out.bw
    have kt0 := HTWt.out.cell 0
    have kt1 := HTWt.out.cell 1
    have kt2 := HTWt.out.cell 2
    have kt3 := HTWt.out.cell 3
    have kt4 := HTWt.out.cell 4
    have kt5 := HTWt.out.cell 5
    have kt6 := HTWt.out.cell 6
    have kt7 := HTWt.out.cell 7
    have kt8 := HTWt.out.cell 8
    have kt9 := HTWt.out.cell 9
    have kt10 := HTWt.out.cell 10
    have kt11 := HTWt.out.cell 11
    have kt12 := HTWt.out.cell 12
    have kt13 := HTWt.out.cell 13
    have kt14 := HTWt.out.cell 14
    simp only [tabC, List.getElem?_cons_zero, List.getElem?_cons_succ] at kt0 kt1 kt2 kt3 kt4 kt5 kt6 kt7 kt8 kt9 kt10 kt11 kt12 kt13 kt14
    have b0 := HTWw.out.cell 0
    have b1 := HTWw.out.cell 1
    have b2 := HTWw.out.cell 2
    have b3 := HTWw.out.cell 3
    have b4 := HTWw.out.cell 4
    have b5 := HTWw.out.cell 5
    have b6 := HTWw.out.cell 6
    have b7 := HTWw.out.cell 7
    have b8 := HTWw.out.cell 8
    have b9 := HTWw.out.cell 9
    have bA := HTWw.out.cell 10
    have bB := HTWw.out.cell 11
    have bC := HTWw.out.cell 12
    simp only [worldC, List.getElem?_cons_zero, List.getElem?_cons_succ] at b0 b1 b2 b3 b4 b5 b6 b7 b8 b9 bA bB bC
    clear hnew
    clear hb1
    go_wp2_with fail
    refine (HV.out _ HTW.out.bl).mono ?_
    rintro e w2 ⟨v, rfl, ho, hb2⟩
    have HO := Lib.hid ho
    obtain ⟨a, c, rfl⟩ := ow_shape ho
    have hnew := HTW.out.below hb2
    clear kt0 kt1 kt2 kt3 kt4 kt5 kt6 kt7 kt8 kt9 kt10 kt11 kt12 kt13 kt14
    clear b0 b1 b2 b3 b4 b5 b6 b7 b8 b9 bA bB bC
    clear HTWt HTWw
    clear HTW
    have HTW := Lib.hid (hnew)
    have HTWt := Lib.hid HTW.out.bt
    have HTWw := Lib.hid HTW.out.bw
    have kt0 := HTWt.out.cell 0
    have kt1 := HTWt.out.cell 1
    have kt2 := HTWt.out.cell 2
    have kt3 := HTWt.out.cell 3
    have kt4 := HTWt.out.cell 4
    have kt5 := HTWt.out.cell 5
    have kt6 := HTWt.out.cell 6
    have kt7 := HTWt.out.cell 7
    have kt8 := HTWt.out.cell 8
    have kt9 := HTWt.out.cell 9
    have kt10 := HTWt.out.cell 10
    have kt11 := HTWt.out.cell 11
    have kt12 := HTWt.out.cell 12
    have kt13 := HTWt.out.cell 13
    have kt14 := HTWt.out.cell 14
    simp only [tabC, List.getElem?_cons_zero, List.getElem?_cons_succ] at kt0 kt1 kt2 kt3 kt4 kt5 kt6 kt7 kt8 kt9 kt10 kt11 kt12 kt13 kt14
    have b0 := HTWw.out.cell 0
    have b1 := HTWw.out.cell 1
    have b2 := HTWw.out.cell 2
    have b3 := HTWw.out.cell 3
    have b4 := HTWw.out.cell 4
    have b5 := HTWw.out.cell 5
    have b6 := HTWw.out.cell 6
    have b7 := HTWw.out.cell 7
    have b8 := HTWw.out.cell 8
    have b9 := HTWw.out.cell 9
    have bA := HTWw.out.cell 10
    have bB := HTWw.out.cell 11
    have bC := HTWw.out.cell 12
    simp only [worldC, List.getElem?_cons_zero, List.getElem?_cons_succ] at b0 b1 b2 b3 b4 b5 b6 b7 b8 b9 bA bB bC
    clear hnew
    clear ho hb2
    go_wp2_with fail
    refine (HCT.out _ _ _ HO.out).mono ?_
    rintro e w3 ⟨rfl, rfl⟩
    go_wp2_with fail
    go_ret
    exact ⟨rfl, HTW.out.bl⟩
end Go.Proofs.YtjnpinfnpnohmaaDoor
