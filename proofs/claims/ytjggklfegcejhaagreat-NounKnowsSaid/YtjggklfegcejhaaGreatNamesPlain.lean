/- The plain law of package names: names, what they are compared by, entries, and what Make answers. No program in sight. -/
import Derived.Test.YtjggklfegcejhaaGreatMem
import Derived.Sort.Walk0
namespace Go.Proofs.YtjggklfegcejhaaGreat
open Go.RowKit Go.PlainAid
set_option linter.unusedVariables false
set_option linter.unusedSimpArgs false

/-! ### Texts, compared -/
def ltS (a b : List UInt8) : Bool := Op.bytesLess a b
theorem ltS_iff (a b : List UInt8) : ltS a b = true ↔ a < b := by unfold ltS; rw [bytesLess_eq]; simp
theorem ltS_irrefl (a : List UInt8) : ltS a a = false := by
  cases h : ltS a a with
  | false => rfl
  | true => exact absurd ((ltS_iff a a).1 h) (List.lt_irrefl a)
theorem ltS_trans {a b c : List UInt8} (h1 : ltS a b = true) (h2 : ltS b c = true) : ltS a c = true :=
  (ltS_iff a c).2 (List.lt_trans ((ltS_iff a b).1 h1) ((ltS_iff b c).1 h2))
theorem ltS_asymm {a b : List UInt8} (h : ltS a b = true) : ltS b a = false := by
  cases h2 : ltS b a with
  | false => rfl
  | true => have := ltS_trans h h2; rw [ltS_irrefl] at this; cases this
theorem ltS_eq {a b : List UInt8} (h1 : ltS a b = false) (h2 : ltS b a = false) : a = b := by
  have n1 : ¬ a < b := fun h => by have := (ltS_iff a b).2 h; rw [h1] at this; cases this
  have n2 : ¬ b < a := fun h => by have := (ltS_iff b a).2 h; rw [h2] at this; cases this
  exact List.le_antisymm (List.not_lt.1 n2) (List.not_lt.1 n1)
def cmpS (a b : List UInt8) : Int := if ltS a b = true then -1 else if ltS b a = true then 1 else 0
theorem cmpS_lt (a b : List UInt8) : decide (cmpS a b < 0) = ltS a b := by
  unfold cmpS
  cases h : ltS a b with
  | true => simp
  | false => cases ltS b a <;> simp
theorem cmpS_eq (a b : List UInt8) : (cmpS a b == 0) = decide (a = b) := by
  unfold cmpS
  cases h : ltS a b with
  | true =>
    have : a ≠ b := fun e => by rw [e, ltS_irrefl] at h; cases h
    simp [this]
  | false =>
    cases h2 : ltS b a with
    | true =>
      have : a ≠ b := fun e => by rw [e, ltS_irrefl] at h2; cases h2
      simp [this]
    | false => simp [ltS_eq h h2]
theorem cmpS_bd (a b : List UInt8) : -1 ≤ cmpS a b ∧ cmpS a b ≤ 1 := by
  unfold cmpS
  split
  · omega
  · split <;> omega

/-! ### Names -/
structure NM where
  nm : List UInt8
  kd : Int
  nu : Int
deriving DecidableEq
/-- Names rise. -/
def RisesN (l : List NM) : Prop := l.Pairwise fun a b => ltS a.nm b.nm = true
/-- A name in its place. -/
def putN : List NM → NM → List NM
  | [], x => [x]
  | a :: t, x => if ltS a.nm x.nm = true then a :: putN t x else x :: a :: t
theorem put_perm : ∀ (l : List NM) (x : NM), (putN l x).Perm (x :: l)
  | [], x => List.Perm.refl _
  | a :: t, x => by
    rw [putN]; split
    · exact ((put_perm t x).cons a).trans (List.Perm.swap x a t)
    · exact List.Perm.refl _
theorem put_mem (l : List NM) (x y : NM) : y ∈ putN l x ↔ y = x ∨ y ∈ l := by rw [(put_perm l x).mem_iff]; simp
theorem put_rises : ∀ (l : List NM) (x : NM), RisesN l → (∀ a ∈ l, a.nm ≠ x.nm) → RisesN (putN l x)
  | [], x, _, _ => List.pairwise_singleton _ _
  | a :: t, x, h, hn => by
    have h' := List.pairwise_cons.1 h
    rw [putN]; split
    · rename_i hl
      refine List.pairwise_cons.2 ⟨fun y hy => ?_, put_rises t x h'.2 (fun b hb => hn b (List.mem_cons_of_mem _ hb))⟩
      rcases (put_mem t x y).1 hy with e | e
      · rw [e]; exact hl
      · exact h'.1 y e
    · rename_i hl
      have hxa : ltS x.nm a.nm = true := by
        cases hh : ltS x.nm a.nm with
        | true => rfl
        | false => exact absurd (ltS_eq (by simpa using hl) hh) (hn a (List.mem_cons_self ..))
      refine List.pairwise_cons.2 ⟨fun y hy => ?_, h⟩
      rcases List.mem_cons.1 hy with e | e
      · rw [e]; exact hxa
      · exact ltS_trans hxa (h'.1 y e)
/-- Two rising lists of the same names are one. -/
theorem rises_eq : ∀ (a b : List NM), RisesN a → RisesN b → a.Perm b → a = b
  | [], b, _, _, h => by have := h.length_eq; simp at this; exact (List.length_eq_zero_iff.1 this.symm).symm
  | x :: s, [], _, _, h => by have := h.length_eq; simp at this
  | x :: s, y :: t, ha, hb, h => by
    have ha' := List.pairwise_cons.1 ha
    have hb' := List.pairwise_cons.1 hb
    have hxy : x = y := by
      have h1 : x ∈ y :: t := h.mem_iff.1 (List.mem_cons_self ..)
      have h2 : y ∈ x :: s := h.mem_iff.2 (List.mem_cons_self ..)
      rcases List.mem_cons.1 h1 with e | e
      · exact e
      · rcases List.mem_cons.1 h2 with e2 | e2
        · exact e2.symm
        · have a1 := hb'.1 x e
          have a2 := ha'.1 y e2
          rw [ltS_asymm a1] at a2; cases a2
    subst hxy
    rw [rises_eq s t ha'.2 hb'.2 (List.Perm.cons_inv h)]
/-- What a name stands for. -/
def findN (l : List NM) (n : List UInt8) : Option NM := l.find? fun x => decide (x.nm = n)
theorem find_put (l : List NM) (x : NM) (h : RisesN l) : ∀ n, (findN l n).isSome = decide (∃ y ∈ l, y.nm = n) := fun n => by
  unfold findN
  rw [List.isSome_find?]
  rw [Bool.eq_iff_iff]; simp

/-! ### Entries -/
/-- A declaration: its name, kind, part, place, number, how many may be. -/
structure EN where
  nm : List UInt8
  kd : Int
  part : Int
  at_ : Nat
  num : Int
  most : Int
/-- What a source declares. -/
structure DC where
  fl : List (List UInt8)
  pr : List (List UInt8)
  gl : List (List UInt8)
  ob : List (List UInt8)
  ve : List (List UInt8)
  fu : List (List UInt8)
  da : List (List UInt8)
def entsF (kd part most from_ : Int) : List (List UInt8) → Nat → List EN
  | [], _ => []
  | x :: t, i => ⟨x, kd, part, i, from_ + i, most⟩ :: entsF kd part most from_ t (i + 1)
def entsD (d : DC) : List EN :=
  entsF 1 2 12 4 d.fl 0 ++ (entsF 2 3 16 0 d.pr 0 ++ (entsF 3 4 64 0 d.gl 0 ++ (entsF 4 5 126 2 d.ob 0 ++ (entsF 5 6 64 0 d.ve 0 ++ (entsF 6 8 64 0 d.fu 0 ++ entsF 7 9 16 0 d.da 0)))))
theorem ents_len (kd part most from_ : Int) : ∀ (l : List (List UInt8)) (i : Nat), (entsF kd part most from_ l i).length = l.length
  | [], _ => rfl
  | x :: t, i => by rw [entsF, List.length_cons, ents_len kd part most from_ t (i + 1)]; rfl
theorem ents_at (kd part most from_ : Int) : ∀ (l : List (List UInt8)) (i k : Nat) (h : k < l.length) (h' : k < (entsF kd part most from_ l i).length), (entsF kd part most from_ l i)[k] = ⟨l[k], kd, part, i + k, from_ + ((i + k : Nat) : Int), most⟩
  | [], _, k, h, _ => by simp at h
  | x :: t, i, 0, h, _ => by simp [entsF]
  | x :: t, i, k + 1, h, h' => by
    simp only [entsF, List.getElem_cons_succ]
    rw [ents_at kd part most from_ t (i + 1) k (by simpa using h)]
    have e : i + 1 + k = i + (k + 1) := by omega
    rw [e]
/-- What is wrong with an entry, these names being met; 0: nothing. ok: may it be a name? -/
def errN (ok : List UInt8 → Bool) (met : List (List UInt8)) (e : EN) : Int :=
  if e.most ≤ (e.at_ : Int) then 7 else if ok e.nm = false then 9 else if e.nm ∈ met then 10 else 0
/-- The four names that each story has, as they are declared. -/
def fourN : List NM := [⟨[108, 105, 116], 1, 0⟩, ⟨[111, 112, 101, 110], 1, 1⟩, ⟨[98, 111, 120], 1, 2⟩, ⟨[104, 105, 100, 100, 101, 110], 1, 3⟩]
/-- The first entry that is wrong, and its error; or the names as they come. -/
def runN (ok : List UInt8 → Bool) : List EN → List NM → (Int × EN) ⊕ List NM
  | [], out => .inr out
  | e :: es, out => if errN ok (out.map (·.nm)) e ≠ 0 then .inl (errN ok (out.map (·.nm)) e, e) else runN ok es (out ++ [⟨e.nm, e.kd, e.num⟩])
def sortN (l : List NM) : List NM := l.foldl putN []
theorem sort_snoc (l : List NM) (x : NM) : sortN (l ++ [x]) = putN (sortN l) x := by unfold sortN; rw [List.foldl_append]; rfl
theorem foldl_perm : ∀ (l acc : List NM), (l.foldl putN acc).Perm (l ++ acc)
  | [], acc => List.Perm.refl _
  | x :: t, acc => by
    show (t.foldl putN (putN acc x)).Perm _
    refine (foldl_perm t (putN acc x)).trans ?_
    refine ((put_perm acc x).append_left t).trans ?_
    show (t ++ x :: acc).Perm (x :: (t ++ acc))
    exact List.perm_middle
theorem sort_perm (l : List NM) : (sortN l).Perm l := by have := foldl_perm l []; rwa [List.append_nil] at this
theorem foldl_rises : ∀ (l acc : List NM), RisesN acc → ((l ++ acc).map (·.nm)).Nodup → RisesN (l.foldl putN acc)
  | [], acc, h, _ => h
  | x :: t, acc, h, hn => by
    have hn' : (x.nm :: (t ++ acc).map (·.nm)).Nodup := hn
    have h1 := List.nodup_cons.1 hn'
    refine foldl_rises t (putN acc x) (put_rises acc x h (fun a ha e => h1.1 (by rw [← e]; exact List.mem_map_of_mem (List.mem_append_right _ ha)))) ?_
    have hp : ((t ++ putN acc x).map (·.nm)).Perm (x.nm :: (t ++ acc).map (·.nm)) := by
      have h2 : (t ++ putN acc x).Perm (x :: (t ++ acc)) := ((put_perm acc x).append_left t).trans List.perm_middle
      exact h2.map (·.nm)
    exact hp.nodup_iff.2 hn'
theorem sort_rises (l : List NM) (h : (l.map (·.nm)).Nodup) : RisesN (sortN l) := foldl_rises l [] List.Pairwise.nil (by rwa [List.append_nil])
theorem met_sort (l : List NM) (n : List UInt8) : n ∈ (sortN l).map (·.nm) ↔ n ∈ l.map (·.nm) := ((sort_perm l).map (·.nm)).mem_iff
theorem err_sort (ok : List UInt8 → Bool) (l : List NM) (e : EN) : errN ok ((sortN l).map (·.nm)) e = errN ok (l.map (·.nm)) e := by
  unfold errN
  have := met_sort l e.nm
  by_cases h : e.nm ∈ l.map (·.nm)
  · rw [if_pos (this.2 h), if_pos h]
  · rw [if_neg (fun h2 => h (this.1 h2)), if_neg h]
/-- What the reference answers: the names kept in their places. -/
def runR (ok : List UInt8 → Bool) : List EN → List NM → (Int × EN) ⊕ List NM
  | [], t => .inr t
  | e :: es, t => if errN ok (t.map (·.nm)) e ≠ 0 then .inl (errN ok (t.map (·.nm)) e, e) else runR ok es (putN t ⟨e.nm, e.kd, e.num⟩)
theorem run_same (ok : List UInt8 → Bool) : ∀ (es : List EN) (out : List NM), runR ok es (sortN out) = (match runN ok es out with | .inl f => .inl f | .inr l => .inr (sortN l))
  | [], out => rfl
  | e :: es, out => by
    rw [runR, runN, err_sort]
    by_cases h : errN ok (out.map (·.nm)) e ≠ 0
    · rw [if_pos h, if_pos h]
    · rw [if_neg h, if_neg h, ← sort_snoc, run_same ok es (out ++ [_])]
theorem run_nodup (ok : List UInt8 → Bool) : ∀ (es : List EN) (out l : List NM), (out.map (·.nm)).Nodup → runN ok es out = .inr l → (l.map (·.nm)).Nodup
  | [], out, l, h, hr => by simp [runN] at hr; rw [← hr]; exact h
  | e :: es, out, l, h, hr => by
    rw [runN] at hr
    by_cases he : errN ok (out.map (·.nm)) e ≠ 0
    · rw [if_pos he] at hr; cases hr
    · rw [if_neg he] at hr
      refine run_nodup ok es _ l ?_ hr
      rw [List.map_append, List.nodup_append]
      refine ⟨h, by simp, fun a ha b hb hab => he ?_⟩
      simp at hb
      unfold errN
      split
      · decide
      · split
        · decide
        · rw [if_pos (by rw [← hb, ← hab]; exact ha)]; decide
end Go.Proofs.YtjggklfegcejhaaGreat
