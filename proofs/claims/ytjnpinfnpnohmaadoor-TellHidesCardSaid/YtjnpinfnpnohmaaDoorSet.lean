/- A region that draws its order, whose operations each give a value of a kind of their own (a fixed one, or any that has a property), in every world of a sort, and stay in it: one walk in the order of the text.; Plain law of TellHides: a thing's list of titles with the thing hidden.; Contracts of clewref21's power and with.; Contract of clewref21.Set at the flag that hides. -/
import Derived.Test.YtjnpinfnpnohmaaDoorGrow
import Derived.Test.YtjnpinfnpnohmaaDoorTell4
import Derived.Test.YtjnpinfnpnohmaaDoorRef27
import Derived.Test.YtjnpinfnpnohmaaDoorRef24
import Derived.Test.YtjnpinfnpnohmaaDoorTail
namespace Go.Proofs.YtjnpinfnpnohmaaDoor
open Go.RowKit Go.PlainAid
set_option linter.unusedVariables false
set_option linter.unusedSimpArgs false

section
variable {P : Program} {ops : Array Oper} {S : World → Prop} {K : Act → Prop} {md : Region.Mode} {GG : Nat → Value → Prop}

/-- What a run of one operation comes to: a value of the kind G, in a world of the sort S. -/
def givesUponG (P : Program) (S : World → Prop) (G : Value → Prop) : Result Next → Prop
  | .ok (.value u) w' => G u ∧ S w'
  | .ok (.enter f args) w' => Calls P f args w' (fun e w'' => ∃ u, e = .returned u ∧ G u ∧ S w'')
  | _ => False
def GivesG (P : Program) (ops : Array Oper) (S : World → Prop) (o : Oper) (G : Value → Prop) (a : Act) : Prop :=
  (Region.wanted o (yielded ops a.tmps) = true ∧ ∀ w, S w → givesUponG P S G ((execOp a.eval o).run P w)) ∨ (Region.wanted o (yielded ops a.tmps) = false ∧ G undef)
theorem GivesG.same {o : Oper} {G : Value → Prop} {a a' : Act} (h : GivesG P ops S o G a) (he : execOp a'.eval o = execOp a.eval o)
    (hw : Region.wanted o (yielded ops a'.tmps) = Region.wanted o (yielded ops a.tmps)) : GivesG P ops S o G a' := by
  unfold GivesG at *; rw [he, hw]; exact h
/-- Whatever order is picked: values of their kinds, and K at the end. -/
def anyV (P : Program) (md : Region.Mode) (ops : Array Oper) (S : World → Prop) (GG : Nat → Value → Prop) (K : Act → Prop) : Nat → Array Bool → Act → Prop
  | 0, listed, a => Region.ready md ops listed = [] ∧ K a
  | n + 1, listed, a => (Region.ready md ops listed = [] → K a) ∧ ∀ j ∈ Region.ready md ops listed, ∃ o, ops[j]? = some o ∧ GivesG P ops S o (GG j) a ∧ ∀ v, GG j v → anyV P md ops S GG K n (listed.setIfInBounds j true) (a.put o.dst v)
theorem anyV_sound {Q : Exit → Act → World → Prop} (hK : ∀ a w, K a → S w → Q .normal a w) : ∀ (n : Nat) (listed : Array Bool) (a : Act) (w : World), S w → anyV P md ops S GG K n listed a → wpAny P md ops Q n listed a w
  | 0, _, a, w, hS, h => ⟨h.1, hK a w h.2 hS⟩
  | n + 1, listed, a, w, hS, h => by
    refine ⟨fun h0 => hK a w (h.1 h0) hS, fun j hj => ?_⟩
    obtain ⟨o, ho, hg, hn⟩ := h.2 j hj
    unfold wpOp
    simp only [ho]
    rcases hg with ⟨hw, hv⟩ | ⟨hw, hu⟩
    · simp only [hw, if_true]
      refine .inl ?_
      have h1 := hv w hS
      unfold Oper.wp
      generalize (execOp a.eval o).run P w = r at *
      cases r with
      | ok nx w' =>
        cases nx <;> simp only [givesUponG] at h1 <;> simp only [Oper.upon]
        case value u => exact anyV_sound hK n _ _ w' h1.2 (hn u h1.1)
        case enter f args => exact h1.mono fun e w'' ⟨u, he, hg, hs⟩ => by subst he; exact anyV_sound hK n _ _ w'' hs (hn u hg)
      | halt x w' => simp only [givesUponG] at h1
    · simp only [hw, Bool.false_eq_true, if_false]
      exact anyV_sound hK n _ _ w hS (hn _ hu)
theorem anyV_first {i : Nat} {oi : Oper} (hi : ops[i]? = some oi) (hsel : ∀ (j : Nat) (o : Oper) cs b, ops[j]? = some o → o.op ≠ .select cs b) (hne : ∃ v, GG i v) :
    ∀ (n : Nat) (listed : Array Bool) (a : Act), (∀ j oj, ops[j]? = some oj → j ≠ i → listed.getD j true = false → (∀ e ∈ oj.after, Region.binds md e = true → e.on ≠ i) → oi.apart ops oj = true) →
      i ∈ Region.ready md ops listed → GivesG P ops S oi (GG i) a → (∀ v, GG i v → anyV P md ops S GG K n (listed.setIfInBounds i true) (a.put oi.dst v)) → anyV P md ops S GG K (n + 1) listed a := by
  obtain ⟨v0, hv0⟩ := hne
  intro n
  induction n with
  | zero =>
    intro listed a _ hr hy H
    refine ⟨fun h => (by rw [h] at hr; cases hr), fun j hj => ?_⟩
    by_cases hji : j = i
    · subst hji; exact ⟨oi, hi, hy, H⟩
    · have := ready_mono hj hji
      rw [(H v0 hv0).1] at this; cases this
  | succ n ih =>
    intro listed a hfree hr hy H
    refine ⟨fun h => (by rw [h] at hr; cases hr), fun j hj => ?_⟩
    by_cases hji : j = i
    · subst hji; exact ⟨oi, hi, hy, H⟩
    · obtain ⟨oj', hoj', hgj, _⟩ := (H v0 hv0).2 j (ready_mono hj hji)
      obtain ⟨hjun, oj, hoj, hall⟩ := mem_ready.1 hj
      obtain rfl : oj' = oj := by rw [hoj] at hoj'; exact (Option.some.inj hoj').symm
      have hnot : ∀ e ∈ oj'.after, Region.binds md e = true → e.on ≠ i := fun e he hb heq => by
        have h1 := hall e he hb
        have h0 := (mem_ready.1 hr).1
        rw [heq] at h1
        rcases Nat.lt_or_ge i listed.size with h' | h'
        · simp [h'] at h0 h1; rw [h0] at h1; cases h1
        · simp [Array.getElem?_eq_none h'] at h1
      obtain ⟨a1, a2, a3⟩ := Oper.apart_spec (hfree j oj' hoj hji hjun hnot)
      refine ⟨oj', hoj, hgj.same (execOp_put oj' (fun cs b => hsel j oj' cs b hoj) a oi.dst v0 a1).symm (wanted_put oj' a oi.dst v0 a1).symm, fun u hu => ?_⟩
      refine ih _ _ (fun k ok hk hki hun hno => hfree k ok hk hki ?_ hno) (ready_mono hr (Ne.symm hji)) (hy.same (execOp_put oi (fun cs b => hsel i oi cs b hi) a oj'.dst u a3) (wanted_put oi a oj'.dst u a3)) (fun v hv => ?_)
      · by_cases hjk : j = k
        · subst hjk; exact hjun
        · rw [getD_set_ne true hjk] at hun; exact hun
      · rw [Array.setIfInBounds_comm _ _ hji, ← Act.put_comm a v u a2]
        obtain ⟨oj2, hoj2, _, hn⟩ := (H v hv).2 j (ready_mono hj hji)
        obtain rfl : oj2 = oj' := by rw [hoj] at hoj2; exact (Option.some.inj hoj2).symm
        exact hn u hu
/-- The walk in the order of the text. -/
def inTextG (P : Program) (ops : Array Oper) (S : World → Prop) (GG : Nat → Value → Prop) (K : Act → Prop) : Nat → List Oper → Act → Prop
  | _, [], a => K a
  | k, o :: l, a => (∃ v, GG k v) ∧ GivesG P ops S o (GG k) a ∧ ∀ v, GG k v → inTextG P ops S GG K (k + 1) l (a.put o.dst v)
theorem anyV_text2 {L : List Oper} (hB : textB md L = true) : ∀ (l : List Oper) (k : Nat) (listed : Array Bool) (a : Act), (∀ j, l[j]? = L[k + j]?) → (∀ j, j < L.length → listed.getD j true = decide (j < k)) → listed.size = L.length → inTextG P L.toArray S GG K k l a → anyV P md L.toArray S GG K l.length listed a
  | [], k, listed, a, hl, hd, hz, h => by
    refine ⟨List.eq_nil_iff_forall_not_mem.2 fun j hj => ?_, h⟩
    obtain ⟨h1, o, ho, _⟩ := mem_ready.1 hj
    have hjL : j < L.length := by
      have := (Array.getElem?_eq_some_iff.1 ho).1; simpa using this
    have h2 := hd j hjL
    rw [h1] at h2
    have hjk : ¬ j < k := by simpa using h2.symm
    have := hl (j - k)
    rw [show k + (j - k) = j by omega, List.getElem?_eq_getElem hjL] at this
    simp at this
  | o :: l, k, listed, a, hl, hd, hz, h => by
    unfold textB at hB
    simp only [Bool.and_eq_true] at hB
    have h0 : L[k]? = some o := by simpa using (hl 0).symm
    have hkL : k < L.length := (List.getElem?_eq_some_iff.1 h0).1
    have h0' : L.toArray[k]? = some o := by simpa using h0
    obtain ⟨hne, hy, hK⟩ := h
    refine anyV_first h0' (Region.noSelect_spec hB.1) hne l.length listed a (fun j oj hj hjk hun hno => ?_) ?_ hy
      (fun v hv => anyV_text2 (by unfold textB; simp only [Bool.and_eq_true]; exact hB) l (k + 1) _ _ (fun j => by have := hl (j + 1); simpa [Nat.add_assoc, Nat.add_comm 1 j] using this) (fun j hj => ?_) (by simpa using hz) (hK v hv))
    · have hj' : L[j]? = some oj := by simpa using hj
      have hjL : j < L.length := (List.getElem?_eq_some_iff.1 hj').1
      have h2 := hd j hjL
      rw [hun] at h2
      have hkj : ¬ j < k := by simpa using h2.symm
      exact apartB_at L 0 k j o oj hB.2.2 (by omega) h0 hj' (fun e he hbi => by rw [Nat.zero_add]; exact hno e he hbi)
    · refine mem_ready.2 ⟨by rw [hd k hkL]; simp, o, h0', fun e he hbi => ?_⟩
      have h2 := edgesB_at L 0 k o hB.2.1 h0 e he hbi
      have h3 := hd e.on (by omega)
      have h4 : e.on < listed.size := by omega
      rw [show decide (e.on < k) = true by simp; omega] at h3
      simpa [h4] using h3
    · by_cases e : k = j
      · subst e; simp [hz, hkL]
      · rw [getD_set_ne true e, hd j hj]; simp; omega
/-- The law. -/
theorem region_gen {id : Nat} {Q : Exit → Act → World → Prop} {a : Act} {w : World} {l : List Oper} (S : World → Prop) (GG : Nat → Value → Prop) (hm : P.follows .mixedOrders = true) (hB : textB .any l = true) (hS : S w.drew)
    (h : ∀ K : Act → Prop, Hid (∀ a', (∀ w', S w' → Q .normal a' w') → K a') → let OPS := l.toArray; inTextG P OPS S GG K 0 l a) : (Code.region id l.toArray true).wp P Q a w := by
  refine wp_region_any hm (anyV_sound (S := S) (GG := GG) (K := fun a' => ∀ w', S w' → Q .normal a' w') (fun a w h1 h2 => h1 w h2) _ _ _ _ hS ?_)
  have := anyV_text2 (P := P) (S := S) (GG := GG) (K := fun a' => ∀ w', S w' → Q .normal a' w') hB l 0 (Array.replicate l.toArray.size false) a (by simp) (fun j hj => by simp [hj]) (by simp) (h _ (Lib.hid fun _ h => h))
  simpa using this
theorem inGen_nil {a : Act} {k : Nat} (h : K a) : inTextG P ops S GG K k [] a := h
theorem inGen_val {o : Oper} {k : Nat} {l : List Oper} {v : Value} {a a' : Act} (hG : GG k = fun u => u = v) (hw : Region.wanted o (yielded ops a.tmps) = true) (hv : ∀ w, S w → (execOp a.eval o).run P w = .ok (.value v) w) (ha : a.put o.dst v = a') (h : inTextG P ops S GG K (k + 1) l a') : inTextG P ops S GG K k (o :: l) a :=
  ⟨⟨v, by rw [hG]⟩, .inl ⟨hw, fun w hS => by rw [hv w hS]; exact ⟨by rw [hG], hS⟩⟩, fun u hu => by rw [hG] at hu; subst hu; rw [ha]; exact h⟩
theorem inGen_call {o : Oper} {k : Nat} {l : List Oper} {v : Value} {f : _} {args : _} {a a' : Act} (hG : GG k = fun u => u = v) (hw : Region.wanted o (yielded ops a.tmps) = true) (hv : ∀ w, S w → (execOp a.eval o).run P w = .ok (.enter f args) w)
    (hc : ∀ w, S w → Calls P f args w (fun e w' => e = .returned v ∧ S w')) (ha : a.put o.dst v = a') (h : inTextG P ops S GG K (k + 1) l a') : inTextG P ops S GG K k (o :: l) a :=
  ⟨⟨v, by rw [hG]⟩, .inl ⟨hw, fun w hS => by rw [hv w hS]; exact (hc w hS).mono fun e w' h => ⟨v, h.1, by rw [hG], h.2⟩⟩, fun u hu => by rw [hG] at hu; subst hu; rw [ha]; exact h⟩
/-- A call whose answer is any with a property. -/
theorem inGen_any {o : Oper} {k : Nat} {l : List Oper} {G : Value → Prop} {f : _} {args : _} {a : Act} (hG : GG k = G) (hne : ∃ v, G v) (hw : Region.wanted o (yielded ops a.tmps) = true) (hv : ∀ w, S w → (execOp a.eval o).run P w = .ok (.enter f args) w)
    (hc : ∀ w, S w → Calls P f args w (fun e w' => ∃ u, e = .returned u ∧ G u ∧ S w')) (h : ∀ u, G u → inTextG P ops S GG K (k + 1) l (a.put o.dst u)) : inTextG P ops S GG K k (o :: l) a :=
  ⟨by rw [hG]; exact hne, .inl ⟨hw, fun w hS => by rw [hv w hS]; show Calls _ _ _ _ _; rw [hG]; exact hc w hS⟩, fun u hu => by rw [hG] at hu; exact h u hu⟩
theorem inGen_skip {o : Oper} {k : Nat} {l : List Oper} {a a' : Act} (hG : GG k = fun u => u = undef) (hw : Region.wanted o (yielded ops a.tmps) = false) (ha : a.put o.dst undef = a') (h : inTextG P ops S GG K (k + 1) l a') : inTextG P ops S GG K k (o :: l) a :=
  ⟨⟨_, by rw [hG]⟩, .inr ⟨hw, by rw [hG]⟩, fun u hu => by rw [hG] at hu; subst hu; rw [ha]; exact h⟩
end
end Go.Proofs.YtjnpinfnpnohmaaDoor
namespace Go.Proofs.YtjnpinfnpnohmaaDoor
open Go.RowKit Go.PlainAid
set_option linter.unusedVariables false
set_option linter.unusedSimpArgs false

/-- The flags with bit 3 of a number set. -/
def setF (fl : List Int) (x : Int) : List Int := if bitB (atW fl x) 3 = true then fl else fl.set x.toNat (atW fl x + 8)
theorem bit3_off {m : Int} (h : bitB m 3 = false) : m / 8 % 2 ≠ 1 := by
  unfold bitB at h
  exact of_decide_eq_false h
theorem bit3_add {m : Int} (h : bitB m 3 = false) : bitB (m + 8) 3 = true := by
  have := bit3_off h
  unfold bitB
  show decide ((m + 8) / 8 % 2 = 1) = true
  rw [decide_eq_true_eq]; omega
theorem setF_bd {fl : List Int} {x : Int} (hx : x.toNat < fl.length) (h : ∀ m ∈ fl, 0 ≤ m ∧ m ≤ 65535) : ∀ m ∈ setF fl x, 0 ≤ m ∧ m ≤ 65535 := by
  unfold setF
  cases hb : bitB (atW fl x) 3 with
  | true => simpa [hb] using h
  | false =>
    intro m hm
    simp only [Bool.false_eq_true, if_false] at hm
    rcases List.mem_or_eq_of_mem_set hm with h1 | rfl
    · exact h m h1
    · have h2 := bit3_off hb
      have h3 : 0 ≤ atW fl x ∧ atW fl x ≤ 65535 := by rw [atW_get hx]; exact h _ (List.getElem_mem hx)
      omega
theorem setF_len {fl : List Int} {x : Int} : (setF fl x).length = fl.length := by
  unfold setF; split <;> simp
theorem setF_at {fl : List Int} {x c : Int} (hc : 0 ≤ c) (hx0 : 0 ≤ x) (hne : c ≠ x) : atW (setF fl x) c = atW fl c := by
  unfold setF
  split
  · rfl
  · unfold atW
    rw [List.getD_eq_getElem?_getD, List.getElem?_set_ne (by omega), ← List.getD_eq_getElem?_getD]
theorem setF_self {fl : List Int} {x : Int} (hx : x.toNat < fl.length) : bitB (atW (setF fl x) x) 3 = true := by
  unfold setF
  cases hb : bitB (atW fl x) 3 with
  | true => simp [hb]
  | false =>
    simp only [Bool.false_eq_true, if_false]
    have : atW (fl.set x.toNat (atW fl x + 8)) x = atW fl x + 8 := by
      rw [atW_get (by rw [List.length_set]; exact hx)]; simp
    rw [this]; exact bit3_add hb
/-- What is listed with a thing hidden: all that was, but it. -/
theorem shows_set {fl : List Int} {n : Nat} {x : Int} (hl : fl.length = n) (hx : isW n x = true) {L : List Int} (hL : ∀ c ∈ L, isW n c = true) :
    L.filter (showsL (setF fl x)) = (L.filter (showsL fl)).filter (fun c => !(c == x)) := by
  have hxl := isW_lt hx
  have hxs := (isW_spec.1 hx).1
  rw [List.filter_filter]
  refine List.filter_congr fun c hc => ?_
  have hcs := (isW_spec.1 (hL c hc)).1
  by_cases hcx : c = x
  · subst hcx
    unfold showsL
    rw [setF_self (by rw [hl]; exact hxl.1)]
    simp
  · unfold showsL
    rw [setF_at (by omega) (by omega) hcx]
    simp [hcx]
/-- The length of a row. -/
def sumL (ls : List TxC) : Nat := (ls.map List.length).sum
theorem tail_length : ∀ (l : List TxC), (tailP anL coL l).length = sumL l + (if l.length = 0 then 0 else 2 * l.length + 3)
  | [] => rfl
  | [b] => by simp [tailP, sumL, anL]; try omega
  | b :: c :: t => by
    rw [tailP, List.length_append, List.length_append, tail_length (c :: t)]
    simp [sumL, coL]; omega
theorem row_length : ∀ {l : List TxC}, l ≠ [] → (rowT l).length + 2 ≥ sumL l + 2 * l.length ∧ (2 ≤ l.length → (rowT l).length = sumL l + 2 * l.length + 1) ∧ (l.length = 1 → (rowT l).length = sumL l)
  | [], h => absurd rfl h
  | a :: t, _ => by
    have h1 : (rowT (a :: t)).length = a.length + (tailP anL coL t).length := by rw [rowT, List.length_append]
    rw [h1, tail_length]
    have h2 : sumL (a :: t) = a.length + sumL t := by simp [sumL]
    rw [h2, List.length_cons]
    refine ⟨by split <;> omega, fun h => by rw [if_neg (by omega)]; omega, fun h => ?_⟩
    have : t = [] := List.eq_nil_of_length_eq_zero (by omega)
    subst this; simp [sumL]
theorem sum_sub {l m : List TxC} (h : l.Sublist m) : sumL l ≤ sumL m := by
  induction h with
  | slnil => exact Nat.le_refl _
  | cons a _ ih => simp only [sumL, List.map_cons, List.sum_cons] at *; omega
  | cons_cons a _ ih => simp only [sumL, List.map_cons, List.sum_cons] at *; omega
theorem row_less {l m : List TxC} (h : l.Sublist m) (hlt : l.length < m.length) (h0 : 0 < l.length) : (rowT l).length < (rowT m).length := by
  have h1 := sum_sub h
  have h2 := row_length (l := l) (by intro e; subst e; simp at h0)
  have h3 := row_length (l := m) (by intro e; subst e; simp at hlt)
  have h4 := h3.2.1 (by omega)
  rw [h4]
  by_cases h5 : l.length = 1
  · rw [h2.2.2 h5]; omega
  · rw [h2.2.1 (by omega)]; omega
/-- The law: as many listed, the same row; fewer and one at least, a shorter one. -/
theorem hides_law {t : TbC} {fl ch nx : List Int} {n : Nat} {x y : Int} (hl : fl.length = n) (hx : isW n x = true) :
    let A := (kidsW ch nx n y).filter (showsL fl)
    let B := (kidsW ch nx n y).filter (showsL (setF fl x))
    (A.length = B.length → titlesL t (setF fl x) (kidsW ch nx n y) = titlesL t fl (kidsW ch nx n y)) ∧
    B.length ≤ A.length ∧
    (B.length < A.length → 0 < B.length → (rowT (titlesL t (setF fl x) (kidsW ch nx n y))).length < (rowT (titlesL t fl (kidsW ch nx n y))).length) := by
  intro A B
  have hB : B = A.filter (fun c => !(c == x)) := shows_set hl hx (fun c hc => kids_is hc)
  have hs : B.Sublist A := by rw [hB]; exact List.filter_sublist
  refine ⟨fun h => ?_, hs.length_le, fun h h0 => ?_⟩
  · show B.map _ = A.map _
    rw [hs.eq_of_length h.symm]
  · show (rowT (B.map _)).length < (rowT (A.map _)).length
    exact row_less (hs.map _) (by simpa using h) (by simpa using h0)
theorem look_end (t : TbC) (d : WdC) (n : Nat) : ∃ s, lookT t d n = s ++ [10] := by
  unfold lookT
  split
  · exact ⟨_, rfl⟩
  · exact ⟨[73, 116, 32, 105, 115, 32, 100, 97, 114, 107, 46], rfl⟩
theorem look_le {t : TbC} {d : WdC} {n : Nat} (hT : TW t n) (hn : n ≤ 1000) : (lookT t d n).length ≤ 100000000 := by
  unfold lookT
  split
  · rw [List.length_append]
    have hl : (linesT t d n (topOf d.pa n 1)).length ≤ 3 := by
      unfold linesT
      rw [List.length_append, List.length_append]
      have h0 : ∀ a b : Nat, a ≤ 1 → b ≤ 1 → 1 + a + b ≤ 3 := by omega
      refine h0 _ _ ?_ ?_
      · split
        · split <;> simp
        · simp
      · split <;> simp
    have hs : ∀ s ∈ linesT t d n (topOf d.pa n 1), s.length ≤ 2000000 := by
      intro s hs
      unfold linesT at hs
      rw [List.mem_append, List.mem_append] at hs
      rcases hs with (h | h) | h
      · rw [List.mem_singleton] at h
        subst h
        have := title_le hT.tx (topOf d.pa n 1)
        omega
      · split at h
        · split at h
          · cases h
          · rw [List.mem_singleton] at h
            subst h
            rename_i y _ _
            have := text_le hT.tx y.tx
            omega
        · cases h
      · split at h
        · cases h
        · rw [List.mem_singleton] at h
          subst h
          have h1 := row_le (titles_le (t := t) (fl := d.fl) (l := kidsW d.ch d.nx n (topOf d.pa n 1)) hT.tx)
          have h2 := Nat.le_trans (titles_len (t := t) (fl := d.fl) (l := kidsW d.ch d.nx n (topOf d.pa n 1))) (kids_len d.ch d.nx n (topOf d.pa n 1))
          rw [List.length_append, List.length_append]
          have h3 : seeL.length = 8 := rfl
          have h4 : ([46] : TxC).length = 1 := rfl
          omega
    have := join_le (sep := [10]) (B := 2000000) (by decide) _ hs
    have h5 : ([10] : TxC).length = 1 := rfl
    have h6 : (linesT t d n (topOf d.pa n 1)).length * (2 * 2000000) ≤ 3 * (2 * 2000000) := Nat.mul_le_mul_right _ hl
    omega
  · decide
theorem look_dark {t : TbC} {d : WdC} {n : Nat} (h : litB d n = false) : lookT t d n = darkL := by
  unfold lookT; rw [h]; rfl
/-- A world with other flags. -/
theorem WOk.with_ {w w' : World} {q : Wv} {d : WdC} {n : Nat} {x : Int} {a : Option Addr} {c : Nat} (h : WOk w q d n) (hx : isW n x = true) (hb : Below w.heap.size w w') (hr : RowI w' (.slice a n c) (setF d.fl x)) :
    WOk w' { q with a4 := a, c4 := c } { d with fl := setF d.fl x } n := by
  have h' := h.below hb
  have hl : d.fl.length = n := by rw [← h.is.fl.len, h.l4]
  exact ⟨⟨h'.is.gl, h'.is.pa, h'.is.ch, h'.is.nx, by rw [← h.l4] at hr; exact hr, h'.is.pr, h'.is.ti, h'.is.i1, h'.is.i2, h'.is.i3, h'.is.i4, h'.is.i5⟩, ⟨h.len.h1, h.len.h2, h.len.h3, h.len.few⟩, h.l4, h.pos, h.few, setF_bd (by rw [hl]; exact (isW_lt hx).1) h.fl, h.nest⟩
end Go.Proofs.YtjnpinfnpnohmaaDoor
namespace Go.Proofs.YtjnpinfnpnohmaaDoor
open Go.RowKit Go.PlainAid
set_option linter.unusedVariables false
set_option linter.unusedSimpArgs false

set_option maxRecDepth 100000 in
theorem pow_step (k : Nat) (h : k ≤ 15) : (2 : Int) ^ k ≤ 32768 := by
  have : (2 : Nat) ^ k ≤ 2 ^ 15 := Nat.pow_le_pow_right (by decide) h
  have h2 : ((2 ^ k : Nat) : Int) ≤ 32768 := by omega
  simpa using h2
set_option maxRecDepth 100000 in
theorem ref21power : ∀ (k : Nat) (w : World), k ≤ 15 → Calls Tryd.prog 51 #[.int .i64 k] w fun e w' => e = .returned (.int .i64 (2 ^ k)) ∧ w = w'
  | 0, w => fun _ => by
    go_enter Tryd.func51, Tryd.ntmps51
    go_wp2
    go_ret
    exact ⟨rfl, rfl⟩
  | k + 1, w => fun h => by
    have HI := Lib.hid (fun w => ref21power k w (by omega))
    have hp := pow_step k (by omega)
    have hp0 : (0 : Int) < 2 ^ k := Int.pow_pos (by decide)
    have hwk : IntKind.i64.wrap (k : Int) = (k : Int) := IntWalk.i64_in _ (by omega)
    have hw2 : IntKind.i64.wrap (2 * (2 : Int) ^ k) = 2 * (2 : Int) ^ k := IntWalk.i64_in _ (by omega)
    have hq : ((k : Int) + 1 == 0) = false := by simp; omega
    have HS : Hid ((2 : Int) ^ (k + 1) = 2 * 2 ^ k) := Lib.hid (by rw [Int.pow_succ]; omega)
    go_enter Tryd.func51, Tryd.ntmps51
    go_wp2_with (go_at_call 51; (with_reducible refine (HI.out _).mono ?_); rintro e w' ⟨rfl, rfl⟩)
    go_ret
    exact ⟨by rw [HS.out]; rfl, rfl⟩
/-- A world with another list of flags. -/
def withQ (q : Wv) (a : Option Addr) (c : Nat) : Wv := { q with a4 := a, c4 := c }
set_option maxRecDepth 100000 in
set_option maxHeartbeats 4000000 in
theorem ref21with (q : Wv) (d : WdC) (x m : Int) (n : Nat) (w : World) (hw : WIs w q d) (h4 : q.l4 = n) (hn : n ≤ 1000) (hx : isW n x = true) (hm : (Lit.int .i64 m).wf = true) :
    Calls Tryd.prog 50 #[worldV q, .int .i64 x, .int .i64 m] w fun e w' => ∃ g c, e = .returned (worldV (withQ q (some ⟨g, 0, none⟩) c)) ∧ w.heap.size ≤ g ∧ RowI w' (.slice (some ⟨g, 0, none⟩) n c) (d.fl.set x.toNat m) ∧ Below w.heap.size w w' := by
  have hlt := isW_lt hx
  have hxs := (isW_spec.1 hx).1
  have h5 : d.fl.length = n := by rw [← hw.fl.len, h4]
  obtain ⟨bc, oc, hac, hbc, hcc, _⟩ := hw.fl.at_ (i := x.toNat) (by rw [h5]; exact hlt.1)
  have HFL := Lib.hid hcc
  have HWF := Lib.hid hw.fl
  obtain ⟨i0, hi, hi1, hi2, hi3⟩ := info_parts info_intR
  have HBw := Lib.hid (BK.new w (worldC q) 34)
  have HB0 := Lib.hid (bl_oneA w (.cells (worldC q).toArray 34))
  obtain ⟨W0, hW0⟩ : ∃ W0, w.alloc (.cells (worldC q).toArray 34) = W0 := ⟨_, rfl⟩
  rw [hW0] at HBw HB0
  clear hw hcc
  obtain ⟨a0, a1, a2, a3, a4, a5, a6, l0, l1, l2, l3, l4, l5, l6, c0, c1, c2, c3, c4, c5, c6, s, sc, tu, ov, it, go⟩ := q
  simp only at h4 hac
  subst h4 hac
  have b0 := HBw.out.cell 0
  have b1 := HBw.out.cell 1
  have b2 := HBw.out.cell 2
  have b3 := HBw.out.cell 3
  have b4 := HBw.out.cell 4
  have b5 := HBw.out.cell 5
  have b6 := HBw.out.cell 6
  have b7 := HBw.out.cell 7
  have b8 := HBw.out.cell 8
  have b9 := HBw.out.cell 9
  have bA := HBw.out.cell 10
  have bB := HBw.out.cell 11
  have bC := HBw.out.cell 12
  simp only [worldC, List.getElem?_cons_zero, List.getElem?_cons_succ] at b0 b1 b2 b3 b4 b5 b6 b7 b8 b9 bA bB bC
  unfold worldV at *
  go_enter Tryd.func50, Tryd.ntmps50
  unfold worldC at hW0 ⊢
  try simp only at hW0
  try simp only
  have hlt0 : w.heap.size < W0.heap.size := HBw.out.lt
  have hlt1 : w.heap.size < W0.heap.size + 1 := by omega
  have hne0 : ¬ (w.heap.size = W0.heap.size) := by omega
  have hne1 : ¬ (w.heap.size = W0.heap.size + 1) := by omega
  have hz0 : bc < W0.heap.size := Nat.lt_trans hbc hlt0
  have HCELL : Hid (∀ (W : World), Below w.heap.size w W → ∀ j v, (d.fl.map (Value.int .i64))[j]? = some v → W.cell? ((⟨bc, oc, none⟩ : Addr).add j) = some v) := Lib.hid (fun W hb j v hj => by
    have hjl : j < d.fl.length := by have := (List.getElem?_eq_some_iff.1 hj).1; simpa using this
    have h1 : W.cell? ⟨bc, oc + j, none⟩ = some (.int .i64 d.fl[j]) := (hb.cell (p := ⟨bc, oc + j, none⟩) hbc).trans (HFL.out j hjl)
    rw [List.getElem?_map, List.getElem?_eq_getElem hjl] at hj
    simp only [Option.map_some, Option.some.injEq] at hj
    rw [← hj, ← h1]
    congr 1
    simp [Addr.add]
    try (intro h; omega))
  have HOWN : Hid (∀ Z : Obj, ((W0.alloc Z).alloc (.cells #[] 3)).ownsRow (W0.heap.size + 1) 3 1 (.slice (some ⟨W0.heap.size + 1, 0, none⟩) 0 0) 0 []) := Lib.hid (fun Z => by
    have := World.ownsRow_lit (base := W0.heap.size + 1) (e := 3) (size := 1) (W0.alloc Z) #[] 0 (by rw [World.size_alloc]; exact Nat.le_refl _) (by decide) rfl
    rw [World.size_alloc] at this; exact this)
  go_wp2_with (at_builtin; refine wpList_append_own _ rfl _ _ 23 rfl (W0.heap.size + 1) 3 i0 (.int .i64 0) 1 8 Tryd.underlying23 hi hi1 hi2 hi3 rfl (by decide) _ 0 [] rfl (HOWN.out _) ⟨bc, oc, none⟩ l4 c4 (d.fl.map (Value.int .i64)) rfl (by simp [h5]) (HCELL.out _ (bl_a (bl_a HB0.out _) _)) (by intro u hu; obtain ⟨z, _, rfl⟩ := List.mem_map.1 hu; rfl) (by unfold maxLen; omega) (by omega) (by simp) ?_; intro v3 w3 hown3 hgrow3 _; rw [Nat.zero_add] at hown3; obtain ⟨g3, cap3, rfl, hg3, hg3l⟩ := hown3.form (by omega); have HO3 := Lib.hid hown3; have HK3 := Lib.hid (((HBw.out.alloc _).alloc _).kept hgrow3 (fun j hj => by have h9 : W0.heap.size + 1 = j := Option.some.inj hj; omega)); have HZ3 := Lib.hid (((BK.new W0 [.slice none 0 0, .slice none 0 0, .slice none 0 0, .slice none 0 0, .slice none 0 0, .slice none 0 0, .slice none 0 0, .int .u64 0, .int .i64 0, .int .i64 0, .int .i64 0, .int .i64 0, .int .i64 0] 34).alloc _).kept hgrow3 (fun j hj => by have h9 : W0.heap.size + 1 = j := Option.some.inj hj; omega)); have HB3 : Hid (Below w.heap.size w w3) := Lib.hid (bl_g (bl_a (bl_a HB0.out _) _) hgrow3 (fun j hj => by have h9 : W0.heap.size + 1 = j := Option.some.inj hj; omega)); clear hown3 hgrow3; refine Hid.out ?_)
  refine Lib.hid ?_
  clear b0 b1 b2 b3 b4 b5 b6 b7 b8 b9 bA bB bC
  obtain ⟨cur, hcur, hcap3, hc3⟩ : ∃ cur : List Value, BK w3 g3 cur 3 ∧ l4 ≤ cap3 ∧ ∀ i (h : i < d.fl.length), cur[i]? = some (.int .i64 d.fl[i]) := by
    rcases HO3.out.2 with ⟨h1, _⟩ | ⟨g', cap', cur', h1, h2, h3, h4', h5', h6, h7⟩
    · cases h1
    · simp only [Value.slice.injEq, Option.some.injEq, Addr.mk.injEq] at h1
      obtain ⟨⟨rfl, _⟩, _, rfl⟩ := h1
      refine ⟨cur'.toList, by unfold BK; simpa using h3, h4', fun i hi => ?_⟩
      have h8 := congrArg (fun l => l[i]?) h7
      simp only [List.nil_append] at h8
      rw [List.getElem?_take_of_lt (by omega)] at h8
      rw [h8]; simp [hi]
  have HCU := Lib.hid hcur
  have HC3 := Lib.hid hc3
  have hxl : x.toNat < d.fl.length := by rw [h5]; exact hlt.1
  have hex := hcur.cell x.toNat
  rw [hc3 _ hxl] at hex
  have hefr := hcur.fr x.toNat
  generalize d.fl[x.toNat] = old at hex
  clear hcur hc3
  have b0 := HK3.out.cell 0
  have b1 := HK3.out.cell 1
  have b2 := HK3.out.cell 2
  have b3 := HK3.out.cell 3
  have b4 := HK3.out.cell 4
  have b5 := HK3.out.cell 5
  have b6 := HK3.out.cell 6
  have b7 := HK3.out.cell 7
  have b8 := HK3.out.cell 8
  have b9 := HK3.out.cell 9
  have bA := HK3.out.cell 10
  have bB := HK3.out.cell 11
  have bC := HK3.out.cell 12
  simp only [worldC, List.getElem?_cons_zero, List.getElem?_cons_succ] at b0 b1 b2 b3 b4 b5 b6 b7 b8 b9 bA bB bC
  have f4 := HK3.out.fr 4
  have y0 := HZ3.out.fr 0
  have y1 := HZ3.out.fr 1
  have y2 := HZ3.out.fr 2
  have y3 := HZ3.out.fr 3
  have y4 := HZ3.out.fr 4
  have y5 := HZ3.out.fr 5
  have y6 := HZ3.out.fr 6
  have y7 := HZ3.out.fr 7
  have y8 := HZ3.out.fr 8
  have y9 := HZ3.out.fr 9
  have yA := HZ3.out.fr 10
  have yB := HZ3.out.fr 11
  have yC := HZ3.out.fr 12
  have zz0 := HZ3.out.cell 0
  have zz1 := HZ3.out.cell 1
  have zz2 := HZ3.out.cell 2
  have zz3 := HZ3.out.cell 3
  have zz4 := HZ3.out.cell 4
  have zz5 := HZ3.out.cell 5
  have zz6 := HZ3.out.cell 6
  have zz7 := HZ3.out.cell 7
  have zz8 := HZ3.out.cell 8
  have zz9 := HZ3.out.cell 9
  have zz10 := HZ3.out.cell 10
  have zz11 := HZ3.out.cell 11
  have zz12 := HZ3.out.cell 12
  simp only [List.getElem?_cons_zero, List.getElem?_cons_succ] at zz0 zz1 zz2 zz3 zz4 zz5 zz6 zz7 zz8 zz9 zz10 zz11 zz12
  obtain ⟨hx1, hx2, hx3⟩ := hlt
  have ne1 : ¬ (w.heap.size = g3) := by omega
  have ne2 : ¬ (W0.heap.size = g3) := by omega
  have ne3 : ¬ (g3 = w.heap.size) := by omega
  have ne4 : ¬ (g3 = W0.heap.size) := by omega
  have ne5 : ¬ (W0.heap.size = w.heap.size) := by omega
  have HWFE : Hid (∀ i (h : i < d.fl.length), (Lit.int .i64 d.fl[i]).wf = true) := Lib.hid (fun i h => by
    obtain ⟨_, _, _, _, _, h9⟩ := HWF.out.at_ h
    exact h9)
  have HM := Lib.hid hm
  have H5 := Lib.hid h5
  go_wp2
  generalize hWf : World.setCell _ ⟨W0.heap.size, 12, none⟩ (.int .i64 go) = Wf
  have HFin : BK Wf W0.heap.size [.slice a0 l0 c0, .slice a1 l1 c1, .slice a2 l2 c2, .slice a3 l3 c3, .slice (some ⟨g3, 0, none⟩) l4 cap3, .slice a5 l5 c5, .slice a6 l6 c6, .int .u64 s, .int .i64 sc, .int .i64 tu, .int .i64 ov, .int .i64 it, .int .i64 go] 34 := by
    rw [← hWf]
    have hk := (HZ3.out.kept (gr_set w3 w.heap.size 4 (.slice (some ⟨g3, 0, none⟩) l4 cap3)) (fun j hj => by have := Option.some.inj hj; omega)).kept (gr_set _ g3 x.toNat (.int .i64 m)) (fun j hj => by have := Option.some.inj hj; omega)
    have := (((((((((((((hk.set 0 (.slice a0 l0 c0)).set 1 (.slice a1 l1 c1)).set 2 (.slice a2 l2 c2)).set 3 (.slice a3 l3 c3)).set 4 (.slice (some ⟨g3, 0, none⟩) l4 cap3)).set 5 (.slice a5 l5 c5)).set 6 (.slice a6 l6 c6)).set 7 (.int .u64 s)).set 8 (.int .i64 sc)).set 9 (.int .i64 tu)).set 10 (.int .i64 ov)).set 11 (.int .i64 it)).set 12 (.int .i64 go))
    simpa only [List.set_cons_zero, List.set_cons_succ] using this
  have HCS := (HCU.out.kept (gr_set w3 w.heap.size 4 (.slice (some ⟨g3, 0, none⟩) l4 cap3)) (fun j hj => by have := Option.some.inj hj; omega)).set x.toNat (.int .i64 m)
  have HCF : BK Wf g3 (cur.set x.toNat (.int .i64 m)) 3 := by
    rw [← hWf]
    exact (((((((((((((HCS.kept (gr_set _ _ _ _) (fun j hj => by have := Option.some.inj hj; omega)).kept (gr_set _ _ _ _) (fun j hj => by have := Option.some.inj hj; omega)).kept (gr_set _ _ _ _) (fun j hj => by have := Option.some.inj hj; omega)).kept (gr_set _ _ _ _) (fun j hj => by have := Option.some.inj hj; omega)).kept (gr_set _ _ _ _) (fun j hj => by have := Option.some.inj hj; omega)).kept (gr_set _ _ _ _) (fun j hj => by have := Option.some.inj hj; omega)).kept (gr_set _ _ _ _) (fun j hj => by have := Option.some.inj hj; omega)).kept (gr_set _ _ _ _) (fun j hj => by have := Option.some.inj hj; omega)).kept (gr_set _ _ _ _) (fun j hj => by have := Option.some.inj hj; omega)).kept (gr_set _ _ _ _) (fun j hj => by have := Option.some.inj hj; omega)).kept (gr_set _ _ _ _) (fun j hj => by have := Option.some.inj hj; omega)).kept (gr_set _ _ _ _) (fun j hj => by have := Option.some.inj hj; omega)).kept (gr_set _ _ _ _) (fun j hj => by have := Option.some.inj hj; omega))
  have HBF : Below w.heap.size w Wf := by
    rw [← hWf]
    exact (bl_s (bl_s (bl_s (bl_s (bl_s (bl_s (bl_s (bl_s (bl_s (bl_s (bl_s (bl_s (bl_s (bl_s (bl_s HB3.out _ _) _ _) _ _) _ _) _ _) _ _) _ _) _ _) _ _) _ _) _ _) _ _) _ _) _ _) _ _)
  clear hWf HCS
  have HCFh := Lib.hid HCF
  have HBFh := Lib.hid HBF
  have e0 := HFin.cell 0
  have e1 := HFin.cell 1
  have e2 := HFin.cell 2
  have e3 := HFin.cell 3
  have e4 := HFin.cell 4
  have e5 := HFin.cell 5
  have e6 := HFin.cell 6
  have e7 := HFin.cell 7
  have e8 := HFin.cell 8
  have e9 := HFin.cell 9
  have e10 := HFin.cell 10
  have e11 := HFin.cell 11
  have e12 := HFin.cell 12
  simp only [List.getElem?_cons_zero, List.getElem?_cons_succ] at e0 e1 e2 e3 e4 e5 e6 e7 e8 e9 e10 e11 e12
  clear HCF HBF
  refine bodyPost_ret (v := worldV (withQ ⟨a0, a1, a2, a3, some ⟨bc, oc, none⟩, a5, a6, l0, l1, l2, l3, l4, l5, l6, c0, c1, c2, c3, c4, c5, c6, s, sc, tu, ov, it, go⟩ (some ⟨g3, 0, none⟩) cap3)) ?_ rfl ⟨g3, cap3, rfl, by omega, ?_, HBFh.out⟩
  · simp [results, Tryd.results50, go_sem, e0, e1, e2, e3, e4, e5, e6, e7, e8, e9, e10, e11, e12]
    rfl
  · have hlen : (d.fl.set x.toNat m).length = l4 := by rw [List.length_set]; exact H5.out
    refine ⟨some ⟨g3, 0, none⟩, cap3, by rw [hlen], by rw [hlen]; unfold maxLen; omega, by rw [hlen]; exact hcap3, fun i hi => ⟨g3, 0, rfl, HCFh.out.lt, ?_, ?_⟩⟩
    · have hi' : i < d.fl.length := by rw [List.length_set] at hi; exact hi
      rw [Nat.zero_add, HCFh.out.cell, List.getElem?_set, List.getElem_set]
      by_cases hix : x.toNat = i
      · subst hix
        have hcl : x.toNat < cur.length := (List.getElem?_eq_some_iff.1 (HC3.out _ hi')).1
        simp [hcl]
      · simp only [hix, if_false]
        exact HC3.out i hi'
    · have hi' : i < d.fl.length := by rw [List.length_set] at hi; exact hi
      rw [List.getElem_set]
      by_cases hix : x.toNat = i
      · simp only [hix, if_true]; exact HM.out
      · simp only [hix, if_false]; exact HWFE.out i hi'
end Go.Proofs.YtjnpinfnpnohmaaDoor
namespace Go.Proofs.YtjnpinfnpnohmaaDoor
open Go.RowKit Go.PlainAid
set_option linter.unusedVariables false
set_option linter.unusedSimpArgs false

/-- A row of numbers, kept where another block is written. -/
theorem RowI.but {w w' : World} {g c n : Nat} {L : List Int} {S : List Nat} (h : RowI w (.slice (some ⟨g, 0, none⟩) n c) L) (hb : But w.heap.size S w w') (hg : g ∉ S) : RowI w' (.slice (some ⟨g, 0, none⟩) n c) L := by
  obtain ⟨ad, c', h1, h2, h3, h4⟩ := h
  refine ⟨ad, c', h1, h2, h3, fun i hi => ?_⟩
  obtain ⟨b, o, e, h5, h6, h7⟩ := h4 i hi
  have hbg : b = g := by
    simp only [Value.slice.injEq] at h1
    rw [e] at h1
    have := h1.1
    simp at this
    exact this.1.symm
  refine ⟨b, o, e, Nat.lt_of_lt_of_le h5 hb.size, (hb.cell h5 (by rw [hbg]; exact hg)).trans h6, h7⟩
set_option maxRecDepth 100000 in
set_option maxHeartbeats 4000000 in
theorem ref21Set (q : Wv) (d : WdC) (x : Int) (n : Nat) (w : World) (hW : WOk w q d n) (hx : isW n x = true) :
    Calls Tryd.prog 22 #[worldV q, .int .i64 x, .int .i64 3] w fun e w' => ∃ a c, e = .returned (.tuple #[worldV (withQ q a c), .int .i64 0]) ∧ RowI w' (.slice a n c) (setF d.fl x) ∧ Below w.heap.size w w' := by
  have hlt := isW_lt hx
  have h5 : d.fl.length = n := by rw [← hW.is.fl.len, hW.l4]
  obtain ⟨bc, oc, hac, hbc, hcc, _⟩ := hW.is.fl.at_ (i := x.toNat) (by rw [h5]; exact hlt.1)
  have hcx := hcc x.toNat (by rw [h5]; exact hlt.1)
  have hfm := hW.fl _ (List.getElem_mem (n := x.toNat) (by rw [h5]; exact hlt.1))
  have HFI := Lib.hid (fun w' => ref21flag q x 3 w' hW.m1 (by decide) (by decide))
  rw [hW.len.h1, hx] at HFI
  have HSF : setF d.fl x = if bitB (d.fl[x.toNat]'(by rw [h5]; exact hlt.1)) 3 = true then d.fl else d.fl.set x.toNat (d.fl[x.toNat]'(by rw [h5]; exact hlt.1) + 8) := by
    unfold setF
    rw [atW_get (by rw [h5]; exact hlt.1)]
  generalize hm : d.fl[x.toNat]'(by rw [h5]; exact hlt.1) = m at *
  have HBT := Lib.hid (fun w' => ref21bit m 3 w' hfm.1 hfm.2 (by decide) (by decide))
  have HPO : Hid (∀ w', Calls Tryd.prog 51 #[.int .i64 3] w' fun e w'' => e = .returned (.int .i64 8) ∧ w' = w'') := Lib.hid (fun w' => (ref21power 3 w' (by decide)).mono (fun e w'' h => ⟨by rw [h.1]; rfl, h.2⟩))
  have HWI := Lib.hid (fun w' (hb : Below w.heap.size w w') => ref21with q d x (m + 8) n w' (hW.is.below hb) hW.l4 hW.few hx (by have h1 := hfm.1; have h2 := hfm.2; have h3 : IntKind.i64.min = -9223372036854775808 := (by decide); have h4 : IntKind.i64.max = 9223372036854775807 := (by decide); simp [Lit.wf]; omega))
  have HFL := Lib.hid hW.is.fl
  generalize setF d.fl x = FF at *
  have HSF := Lib.hid HSF
  have hl4 := hW.l4
  have hfew := hW.few
  have hxs := (isW_spec.1 hx).1
  have HBw := Lib.hid (BK.new w (worldC q) 34)
  have HB0 := Lib.hid (bl_oneA w (.cells (worldC q).toArray 34))
  obtain ⟨W0, hW0⟩ : ∃ W0, w.alloc (.cells (worldC q).toArray 34) = W0 := ⟨_, rfl⟩
  rw [hW0] at HBw HB0
  clear hW hcc
  obtain ⟨a0, a1, a2, a3, a4, a5, a6, l0, l1, l2, l3, l4, l5, l6, c0, c1, c2, c3, c4, c5, c6, s, sc, tu, ov, it, go⟩ := q
  simp only at hl4 hac
  subst hl4 hac
  have b0 := HBw.out.cell 0
  have b1 := HBw.out.cell 1
  have b2 := HBw.out.cell 2
  have b3 := HBw.out.cell 3
  have b4 := HBw.out.cell 4
  have b5 := HBw.out.cell 5
  have b6 := HBw.out.cell 6
  have b7 := HBw.out.cell 7
  have b8 := HBw.out.cell 8
  have b9 := HBw.out.cell 9
  have bA := HBw.out.cell 10
  have bB := HBw.out.cell 11
  have bC := HBw.out.cell 12
  simp only [worldC, List.getElem?_cons_zero, List.getElem?_cons_succ] at b0 b1 b2 b3 b4 b5 b6 b7 b8 b9 bA bB bC
  have hlt0 : w.heap.size < W0.heap.size := HBw.out.lt
  have hlt1 : w.heap.size < W0.heap.size + 1 := by omega
  have hne0 : ¬ (w.heap.size = W0.heap.size) := by omega
  unfold worldV at *
  go_enter Tryd.func22, Tryd.ntmps22
  unfold worldC at HFI HWI hW0 ⊢
  try simp only at HFI
  unfold withQ at HWI
  try simp only at HWI
  try simp only at hW0
  try simp only
  go_wp2_with fail
  clear hW0
  refine (HFI.out _).mono ?_
  rintro e w1 ⟨rfl, hb1⟩
  have HK1 := Lib.hid ((HBw.out.alloc (.cells ([.slice none 0 0, .slice none 0 0, .slice none 0 0, .slice none 0 0, .slice none 0 0, .slice none 0 0, .slice none 0 0, .int .u64 0, .int .i64 0, .int .i64 0, .int .i64 0, .int .i64 0, .int .i64 0] : List Value).toArray 34)).below hb1)
  have HZ1 := Lib.hid ((BK.new W0 [.slice none 0 0, .slice none 0 0, .slice none 0 0, .slice none 0 0, .slice none 0 0, .slice none 0 0, .slice none 0 0, .int .u64 0, .int .i64 0, .int .i64 0, .int .i64 0, .int .i64 0, .int .i64 0] 34).below hb1)
  have HB1 := Lib.hid (bl_then (bl_a HB0.out (.cells ([.slice none 0 0, .slice none 0 0, .slice none 0 0, .slice none 0 0, .slice none 0 0, .slice none 0 0, .slice none 0 0, .int .u64 0, .int .i64 0, .int .i64 0, .int .i64 0, .int .i64 0, .int .i64 0] : List Value).toArray 34)) hb1)
  clear hb1
  clear b0 b1 b2 b3 b4 b5 b6 b7 b8 b9 bA bB bC
  have b0 := HK1.out.cell 0
  have b1 := HK1.out.cell 1
  have b2 := HK1.out.cell 2
  have b3 := HK1.out.cell 3
  have b4 := HK1.out.cell 4
  have b5 := HK1.out.cell 5
  have b6 := HK1.out.cell 6
  have b7 := HK1.out.cell 7
  have b8 := HK1.out.cell 8
  have b9 := HK1.out.cell 9
  have bA := HK1.out.cell 10
  have bB := HK1.out.cell 11
  have bC := HK1.out.cell 12
  simp only [worldC, List.getElem?_cons_zero, List.getElem?_cons_succ] at b0 b1 b2 b3 b4 b5 b6 b7 b8 b9 bA bB bC
  have hcx1 := (HB1.out.cell (p := ⟨bc, oc + x.toNat, none⟩) hbc).trans hcx
  obtain ⟨hx1, hx2, hx3⟩ := hlt
  go_wp2_with (go_at_call 49; (with_reducible refine (HBT.out _).mono ?_); rintro e w2 ⟨rfl, rfl⟩; refine Hid.out ?_)
  refine Lib.hid ?_
  have y0 := HZ1.out.fr 0
  have y1 := HZ1.out.fr 1
  have y2 := HZ1.out.fr 2
  have y3 := HZ1.out.fr 3
  have y4 := HZ1.out.fr 4
  have y5 := HZ1.out.fr 5
  have y6 := HZ1.out.fr 6
  have y7 := HZ1.out.fr 7
  have y8 := HZ1.out.fr 8
  have y9 := HZ1.out.fr 9
  have yA := HZ1.out.fr 10
  have yB := HZ1.out.fr 11
  have yC := HZ1.out.fr 12
  have zz0 := HZ1.out.cell 0
  have zz1 := HZ1.out.cell 1
  have zz2 := HZ1.out.cell 2
  have zz3 := HZ1.out.cell 3
  have zz4 := HZ1.out.cell 4
  have zz5 := HZ1.out.cell 5
  have zz6 := HZ1.out.cell 6
  have zz7 := HZ1.out.cell 7
  have zz8 := HZ1.out.cell 8
  have zz9 := HZ1.out.cell 9
  have zz10 := HZ1.out.cell 10
  have zz11 := HZ1.out.cell 11
  have zz12 := HZ1.out.cell 12
  simp only [List.getElem?_cons_zero, List.getElem?_cons_succ] at zz0 zz1 zz2 zz3 zz4 zz5 zz6 zz7 zz8 zz9 zz10 zz11 zz12
  cases hbb : bitB m 3 with
  | true =>
    go_wp2
    generalize hWf : World.setCell _ ⟨W0.heap.size, 12, none⟩ (.int .i64 go) = Wf
    have HFin : BK Wf W0.heap.size [.slice a0 l0 c0, .slice a1 l1 c1, .slice a2 l2 c2, .slice a3 l3 c3, .slice (some ⟨bc, oc, none⟩) l4 c4, .slice a5 l5 c5, .slice a6 l6 c6, .int .u64 s, .int .i64 sc, .int .i64 tu, .int .i64 ov, .int .i64 it, .int .i64 go] 34 := by
      rw [← hWf]
      have := (((((((((((((HZ1.out.set 0 (.slice a0 l0 c0)).set 1 (.slice a1 l1 c1)).set 2 (.slice a2 l2 c2)).set 3 (.slice a3 l3 c3)).set 4 (.slice (some ⟨bc, oc, none⟩) l4 c4)).set 5 (.slice a5 l5 c5)).set 6 (.slice a6 l6 c6)).set 7 (.int .u64 s)).set 8 (.int .i64 sc)).set 9 (.int .i64 tu)).set 10 (.int .i64 ov)).set 11 (.int .i64 it)).set 12 (.int .i64 go))
      simpa only [List.set_cons_zero, List.set_cons_succ] using this
    have HBF : Below w.heap.size w Wf := by
      rw [← hWf]
      exact (bl_s (bl_s (bl_s (bl_s (bl_s (bl_s (bl_s (bl_s (bl_s (bl_s (bl_s (bl_s (bl_s HB1.out _ _) _ _) _ _) _ _) _ _) _ _) _ _) _ _) _ _) _ _) _ _) _ _) _ _)
    clear hWf
    have HBFh := Lib.hid HBF
    have e0 := HFin.cell 0
    have e1 := HFin.cell 1
    have e2 := HFin.cell 2
    have e3 := HFin.cell 3
    have e4 := HFin.cell 4
    have e5 := HFin.cell 5
    have e6 := HFin.cell 6
    have e7 := HFin.cell 7
    have e8 := HFin.cell 8
    have e9 := HFin.cell 9
    have e10 := HFin.cell 10
    have e11 := HFin.cell 11
    have e12 := HFin.cell 12
    simp only [List.getElem?_cons_zero, List.getElem?_cons_succ] at e0 e1 e2 e3 e4 e5 e6 e7 e8 e9 e10 e11 e12
    refine bodyPost_ret (v := .tuple #[worldV (withQ ⟨a0, a1, a2, a3, some ⟨bc, oc, none⟩, a5, a6, l0, l1, l2, l3, l4, l5, l6, c0, c1, c2, c3, c4, c5, c6, s, sc, tu, ov, it, go⟩ (some ⟨bc, oc, none⟩) c4), .int .i64 0]) ?_ rfl ⟨some ⟨bc, oc, none⟩, c4, rfl, by have := HSF.out; simp only [hbb, if_true] at this; rw [this]; exact HFL.out.below HBFh.out, HBFh.out⟩
    simp [results, Tryd.results22, go_sem, e0, e1, e2, e3, e4, e5, e6, e7, e8, e9, e10, e11, e12]
    rfl
  | false =>
    have hz1 : w.heap.size < w1.heap.size := HK1.out.lt
    have hz2 : W0.heap.size < w1.heap.size := HZ1.out.lt
    have hz3 : bc < w1.heap.size := by omega
    have hw8 : IntKind.i64.wrap (m + 8) = m + 8 := IntWalk.i64_in _ (by omega)
    go_wp2_with fail
    refine region_tail 10 (fun w' => Below w1.heap.size w1 w') (by kernel_rfl) (by kernel_rfl) ((Below.refl _ _).drew) (fun KK hKK => ?_)
    intro OPS
    simp only [List.append, List.take]
    repeat (first
      | (refine' inText_val ?_ ?_ ?_ ?_
         rotate_left 2
         · rfl
         · (intro w' hS; obtain ⟨hcc, hff⟩ := bcell hS; go_simp; first | with_reducible rfl | (rw [if_neg (by omega)]; done) | (rw [if_neg (by omega)]; with_reducible rfl) | skip)
         · (simp only [Act.put, List.setIfInBounds_toArray, List.set_cons_zero, List.set_cons_succ]; with_reducible rfl))
      | (refine' inText_call ?_ ?_ ?_ ?_ ?_
         rotate_left 4
         · rfl
         · (intro w' hS; obtain ⟨hcc, hff⟩ := bcell hS; go_simp; exact ⟨rfl, rfl⟩)
         · (intro w' hS
            ((with_reducible refine (HPO.out w').mono ?_); exact fun e w'' h => ⟨h.1, by rw [← h.2]; exact hS⟩))
         · (simp only [Act.put, List.setIfInBounds_toArray, List.set_cons_zero, List.set_cons_succ]; with_reducible rfl)))
    refine inText_nil (hKK.out _ (fun w3 hS => ?_))
    simp only [List.drop]
    clear hKK
    have HS3 := Lib.hid hS
    have HB3 := Lib.hid (bl_then HB1.out hS)
    clear hS
    clear b0 b1 b2 b3 b4 b5 b6 b7 b8 b9 bA bB bC
    clear y0 y1 y2 y3 y4 y5 y6 y7 y8 y9 yA yB yC zz0 zz1 zz2 zz3 zz4 zz5 zz6 zz7 zz8 zz9 zz10 zz11 zz12 hcx1
    go_wp2_with fail
    refine (HWI.out _ HB3.out).mono ?_
    rintro e w4 ⟨ga, ca, rfl, hga, hrow, hb4⟩
    have HG := Lib.hid hga
    have HRO := Lib.hid hrow
    have HB4 := Lib.hid (bl_then HB3.out hb4)
    have HZ4 := Lib.hid (HZ1.out.below (bl_then HS3.out hb4))
    have hz4 : W0.heap.size < w3.heap.size := (HZ1.out.below HS3.out).lt
    clear hga hrow hb4
    have y0 := HZ4.out.fr 0
    have y1 := HZ4.out.fr 1
    have y2 := HZ4.out.fr 2
    have y3 := HZ4.out.fr 3
    have y4 := HZ4.out.fr 4
    have y5 := HZ4.out.fr 5
    have y6 := HZ4.out.fr 6
    have y7 := HZ4.out.fr 7
    have y8 := HZ4.out.fr 8
    have y9 := HZ4.out.fr 9
    have yA := HZ4.out.fr 10
    have yB := HZ4.out.fr 11
    have yC := HZ4.out.fr 12
    have zz0 := HZ4.out.cell 0
    have zz1 := HZ4.out.cell 1
    have zz2 := HZ4.out.cell 2
    have zz3 := HZ4.out.cell 3
    have zz4 := HZ4.out.cell 4
    have zz5 := HZ4.out.cell 5
    have zz6 := HZ4.out.cell 6
    have zz7 := HZ4.out.cell 7
    have zz8 := HZ4.out.cell 8
    have zz9 := HZ4.out.cell 9
    have zz10 := HZ4.out.cell 10
    have zz11 := HZ4.out.cell 11
    have zz12 := HZ4.out.cell 12
    simp only [List.getElem?_cons_zero, List.getElem?_cons_succ] at zz0 zz1 zz2 zz3 zz4 zz5 zz6 zz7 zz8 zz9 zz10 zz11 zz12
    go_wp2
    generalize hWf : World.setCell _ ⟨W0.heap.size, 12, none⟩ (.int .i64 go) = Wf
    have HFin : BK Wf W0.heap.size [.slice a0 l0 c0, .slice a1 l1 c1, .slice a2 l2 c2, .slice a3 l3 c3, .slice (some ⟨ga, 0, none⟩) l4 ca, .slice a5 l5 c5, .slice a6 l6 c6, .int .u64 s, .int .i64 sc, .int .i64 tu, .int .i64 ov, .int .i64 it, .int .i64 go] 34 := by
      rw [← hWf]
      have := (((((((((((((HZ4.out.set 0 (.slice a0 l0 c0)).set 1 (.slice a1 l1 c1)).set 2 (.slice a2 l2 c2)).set 3 (.slice a3 l3 c3)).set 4 (.slice (some ⟨ga, 0, none⟩) l4 ca)).set 5 (.slice a5 l5 c5)).set 6 (.slice a6 l6 c6)).set 7 (.int .u64 s)).set 8 (.int .i64 sc)).set 9 (.int .i64 tu)).set 10 (.int .i64 ov)).set 11 (.int .i64 it)).set 12 (.int .i64 go))
      simpa only [List.set_cons_zero, List.set_cons_succ] using this
    have HBF : Below w.heap.size w Wf := by
      rw [← hWf]
      exact (bl_s (bl_s (bl_s (bl_s (bl_s (bl_s (bl_s (bl_s (bl_s (bl_s (bl_s (bl_s (bl_s HB4.out _ _) _ _) _ _) _ _) _ _) _ _) _ _) _ _) _ _) _ _) _ _) _ _) _ _)
    have HBT : But w4.heap.size [W0.heap.size] w4 Wf := by
      rw [← hWf]
      exact (((((((((((((But.refl _ _ _).set (List.mem_singleton.2 rfl) _ _).set (List.mem_singleton.2 rfl) _ _).set (List.mem_singleton.2 rfl) _ _).set (List.mem_singleton.2 rfl) _ _).set (List.mem_singleton.2 rfl) _ _).set (List.mem_singleton.2 rfl) _ _).set (List.mem_singleton.2 rfl) _ _).set (List.mem_singleton.2 rfl) _ _).set (List.mem_singleton.2 rfl) _ _).set (List.mem_singleton.2 rfl) _ _).set (List.mem_singleton.2 rfl) _ _).set (List.mem_singleton.2 rfl) _ _).set (List.mem_singleton.2 rfl) _ _
    clear hWf
    have HBFh := Lib.hid HBF
    have HRF : Hid (RowI Wf (.slice (some ⟨ga, 0, none⟩) l4 ca) (d.fl.set x.toNat (m + 8))) := Lib.hid (HRO.out.but HBT (by intro e; have := List.mem_singleton.1 e; have := HG.out; omega))
    clear HBT
    have e0 := HFin.cell 0
    have e1 := HFin.cell 1
    have e2 := HFin.cell 2
    have e3 := HFin.cell 3
    have e4 := HFin.cell 4
    have e5 := HFin.cell 5
    have e6 := HFin.cell 6
    have e7 := HFin.cell 7
    have e8 := HFin.cell 8
    have e9 := HFin.cell 9
    have e10 := HFin.cell 10
    have e11 := HFin.cell 11
    have e12 := HFin.cell 12
    simp only [List.getElem?_cons_zero, List.getElem?_cons_succ] at e0 e1 e2 e3 e4 e5 e6 e7 e8 e9 e10 e11 e12
    refine bodyPost_ret (v := .tuple #[worldV (withQ ⟨a0, a1, a2, a3, some ⟨bc, oc, none⟩, a5, a6, l0, l1, l2, l3, l4, l5, l6, c0, c1, c2, c3, c4, c5, c6, s, sc, tu, ov, it, go⟩ (some ⟨ga, 0, none⟩) ca), .int .i64 0]) ?_ rfl ⟨some ⟨ga, 0, none⟩, ca, rfl, by have := HSF.out; simp only [hbb, Bool.false_eq_true, if_false] at this; rw [this]; exact HRF.out, HBFh.out⟩
    simp [results, Tryd.results22, go_sem, e0, e1, e2, e3, e4, e5, e6, e7, e8, e9, e10, e11, e12]
    rfl
end Go.Proofs.YtjnpinfnpnohmaaDoor
