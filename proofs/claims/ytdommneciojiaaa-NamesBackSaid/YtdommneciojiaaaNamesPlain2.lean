/- The plain law of package names, second part: what was made is found; what is wrong; one name more. No program in sight. -/
import Derived.Test.YtdommneciojiaaaNamesPlain
namespace Go.Proofs.Ytdommneciojiaaa
open Go.RowKit Go.PlainAid
set_option linter.unusedVariables false
set_option linter.unusedSimpArgs false

def EN.name (e : EN) : NM := ⟨e.nm, e.kd, e.num⟩
theorem run_app (ok : List UInt8 → Bool) : ∀ (A B : List EN) (out : List NM), runN ok (A ++ B) out = (match runN ok A out with | .inl f => .inl f | .inr o => runN ok B o)
  | [], B, out => rfl
  | e :: A, B, out => by
    rw [List.cons_append, runN, runN]
    by_cases h : errN ok (out.map (·.nm)) e ≠ 0
    · rw [if_pos h, if_pos h]
    · rw [if_neg h, if_neg h]; exact run_app ok A B _
theorem err_zero {ok : List UInt8 → Bool} {met : List (List UInt8)} {e : EN} (h : errN ok met e = 0) : (e.at_ : Int) < e.most ∧ ok e.nm = true ∧ e.nm ∉ met := by
  unfold errN at h
  split at h
  · simp at h
  · split at h
    · simp at h
    · split at h
      · simp at h
      · rename_i h1 h2 h3
        exact ⟨by omega, by simpa using h2, h3⟩
theorem err_some (ok : List UInt8 → Bool) (met : List (List UInt8)) (e : EN) : errN ok met e = 0 ∨ errN ok met e = 7 ∨ errN ok met e = 9 ∨ errN ok met e = 10 := by
  unfold errN
  split
  · exact .inr (.inl rfl)
  · split
    · exact .inr (.inr (.inl rfl))
    · split
      · exact .inr (.inr (.inr rfl))
      · exact .inl rfl
theorem run_inr (ok : List UInt8 → Bool) : ∀ (es : List EN) (out l : List NM), runN ok es out = .inr l → l = out ++ es.map EN.name ∧ ∀ e ∈ es, ok e.nm = true
  | [], out, l, h => by simp [runN] at h; simp [h]
  | e :: es, out, l, h => by
    rw [runN] at h
    by_cases he : errN ok (out.map (·.nm)) e ≠ 0
    · rw [if_pos he] at h; cases h
    · rw [if_neg he] at h
      obtain ⟨h1, h2⟩ := run_inr ok es _ l h
      have h0 := err_zero (Decidable.not_not.1 he)
      refine ⟨by rw [h1]; simp [EN.name], fun x hx => ?_⟩
      rcases List.mem_cons.1 hx with rfl | hx
      · exact h0.2.1
      · exact h2 x hx
theorem run_inl (ok : List UInt8 → Bool) : ∀ (es : List EN) (out : List NM) (c : Int) (e : EN), runN ok es out = .inl (c, e) → c = 7 ∨ c = 9 ∨ c = 10
  | [], out, c, e, h => by simp [runN] at h
  | x :: es, out, c, e, h => by
    rw [runN] at h
    by_cases he : errN ok (out.map (·.nm)) x ≠ 0
    · rw [if_pos he] at h
      have h1 := (Prod.mk.inj (Sum.inl.inj h)).1
      rcases err_some ok (out.map (·.nm)) x with h2 | h2
      · exact absurd h2 he
      · rw [← h1]; exact h2
    · rw [if_neg he] at h
      exact run_inl ok es _ c e h
/-- In what part's place a fault is; ahead of it there is none. -/
theorem run_part (ok : List UInt8 → Bool) (kd part most from_ : Int) : ∀ (l : List (List UInt8)) (i : Nat) (out : List NM) (c : Int) (e : EN), runN ok (entsF kd part most from_ l i) out = .inl (c, e) →
    ∃ k, ∃ h : k < l.length, e.part = part ∧ e.at_ = i + k ∧ e.nm = l[k] ∧ ∃ o, runN ok (entsF kd part most from_ (l.take k) i) out = .inr o
  | [], i, out, c, e, h => by simp [entsF, runN] at h
  | x :: t, i, out, c, e, h => by
    rw [entsF, runN] at h
    by_cases he : errN ok (out.map (·.nm)) ⟨x, kd, part, i, from_ + i, most⟩ ≠ 0
    · rw [if_pos he] at h
      have h1 := (Prod.mk.inj (Sum.inl.inj h)).2
      subst h1
      exact ⟨0, by simp, rfl, rfl, rfl, out, rfl⟩
    · rw [if_neg he] at h
      obtain ⟨k, hk, h1, h2, h3, o, h4⟩ := run_part ok kd part most from_ t (i + 1) _ c e h
      refine ⟨k + 1, by simp; omega, h1, by omega, by simpa using h3, o, ?_⟩
      rw [List.take_succ_cons, entsF, runN, if_neg he]
      exact h4
/-- Names by kind and number. -/
def lt2 (a b : NM) : Prop := a.kd < b.kd ∨ a.kd = b.kd ∧ a.nu < b.nu
theorem ents_kd (kd part most from_ : Int) : ∀ (l : List (List UInt8)) (i : Nat), ∀ x ∈ (entsF kd part most from_ l i).map EN.name, x.kd = kd ∧ from_ + i ≤ x.nu
  | [], i, x, h => by simp [entsF] at h
  | y :: t, i, x, h => by
    rw [entsF, List.map_cons] at h
    rcases List.mem_cons.1 h with rfl | h
    · exact ⟨rfl, Int.le_refl _⟩
    · have := ents_kd kd part most from_ t (i + 1) x h
      exact ⟨this.1, by omega⟩
theorem ents_lt2 (kd part most from_ : Int) : ∀ (l : List (List UInt8)) (i : Nat), ((entsF kd part most from_ l i).map EN.name).Pairwise lt2
  | [], i => List.Pairwise.nil
  | y :: t, i => by
    rw [entsF, List.map_cons]
    refine List.pairwise_cons.2 ⟨fun x hx => .inr ?_, ents_lt2 kd part most from_ t (i + 1)⟩
    have := ents_kd kd part most from_ t (i + 1) x hx
    refine ⟨this.1.symm, ?_⟩
    show from_ + (i : Int) < x.nu
    omega
theorem pw_app {A B : List NM} {k : Int} (hA : A.Pairwise lt2) (hB : B.Pairwise lt2) (h1 : ∀ x ∈ A, x.kd ≤ k) (h2 : ∀ x ∈ B, k < x.kd) : (A ++ B).Pairwise lt2 :=
  List.pairwise_append.2 ⟨hA, hB, fun a ha b hb => .inl (by have := h1 a ha; have := h2 b hb; omega)⟩
theorem ents_gt (k kd part most from_ : Int) (l : List (List UInt8)) (rest : List NM) (h : k < kd) (hr : ∀ x ∈ rest, k < x.kd) : ∀ x ∈ (entsF kd part most from_ l 0).map EN.name ++ rest, k < x.kd := by
  intro x hx
  rcases List.mem_append.1 hx with hx | hx
  · rw [(ents_kd kd part most from_ l 0 x hx).1]; exact h
  · exact hr x hx
theorem ents_le (kd part most from_ : Int) (l : List (List UInt8)) : ∀ x ∈ (entsF kd part most from_ l 0).map EN.name, x.kd ≤ kd := fun x hx => by rw [(ents_kd kd part most from_ l 0 x hx).1]; exact Int.le_refl _
theorem all_lt2 (d : DC) : (fourN ++ (entsD d).map EN.name).Pairwise lt2 := by
  have h7 := ents_lt2 7 9 16 0 d.da 0
  have g7 : ∀ x ∈ (entsF 7 9 16 0 d.da 0).map EN.name, (6 : Int) < x.kd := fun x hx => by rw [(ents_kd 7 9 16 0 d.da 0 x hx).1]; decide
  have h6 := pw_app (ents_lt2 6 8 64 0 d.fu 0) h7 (ents_le 6 8 64 0 d.fu) g7
  have g6 := ents_gt 5 6 8 64 0 d.fu _ (by decide) (fun x hx => by have := g7 x hx; omega)
  have h5 := pw_app (ents_lt2 5 6 64 0 d.ve 0) h6 (ents_le 5 6 64 0 d.ve) g6
  have g5 := ents_gt 4 5 6 64 0 d.ve _ (by decide) (fun x hx => by have := g6 x hx; omega)
  have h4 := pw_app (ents_lt2 4 5 126 2 d.ob 0) h5 (ents_le 4 5 126 2 d.ob) g5
  have g4 := ents_gt 3 4 5 126 2 d.ob _ (by decide) (fun x hx => by have := g5 x hx; omega)
  have h3 := pw_app (ents_lt2 3 4 64 0 d.gl 0) h4 (ents_le 3 4 64 0 d.gl) g4
  have g3 := ents_gt 2 3 4 64 0 d.gl _ (by decide) (fun x hx => by have := g4 x hx; omega)
  have h2 := pw_app (ents_lt2 2 3 16 0 d.pr 0) h3 (ents_le 2 3 16 0 d.pr) g3
  have g2 := ents_gt 1 2 3 16 0 d.pr _ (by decide) (fun x hx => by have := g3 x hx; omega)
  have h1 := pw_app (ents_lt2 1 2 12 4 d.fl 0) h2 (ents_le 1 2 12 4 d.fl) g2
  have e : (entsD d).map EN.name = (entsF 1 2 12 4 d.fl 0).map EN.name ++ ((entsF 2 3 16 0 d.pr 0).map EN.name ++ ((entsF 3 4 64 0 d.gl 0).map EN.name ++ ((entsF 4 5 126 2 d.ob 0).map EN.name ++ ((entsF 5 6 64 0 d.ve 0).map EN.name ++ ((entsF 6 8 64 0 d.fu 0).map EN.name ++ (entsF 7 9 16 0 d.da 0).map EN.name))))) := by simp [entsD]
  rw [e]
  refine List.pairwise_append.2 ⟨?_, h1, fun a ha b hb => ?_⟩
  · unfold fourN lt2; decide
  · have hk : a.kd = 1 ∧ a.nu < 4 := by
      simp only [fourN, List.mem_cons, List.not_mem_nil, or_false] at ha
      rcases ha with rfl | rfl | rfl | rfl <;> decide
    rcases List.mem_append.1 hb with hb | hb
    · have := ents_kd 1 2 12 4 d.fl 0 b hb
      exact .inr ⟨by rw [hk.1, this.1], by omega⟩
    · exact .inl (by rw [hk.1]; exact g2 b hb)
/-- The name of a kind and number. -/
theorem lt2_eq {l : List NM} (h : l.Pairwise lt2) {a b : NM} (ha : a ∈ l) (hb : b ∈ l) (h1 : a.kd = b.kd) (h2 : a.nu = b.nu) : a = b := by
  obtain ⟨i, hi, rfl⟩ := List.getElem_of_mem ha
  obtain ⟨j, hj, rfl⟩ := List.getElem_of_mem hb
  have hp := List.pairwise_iff_getElem.1 h
  by_cases hij : i < j
  · have := hp i j hi hj hij
    unfold lt2 at this; omega
  · by_cases hji : j < i
    · have := hp j i hj hi hji
      unfold lt2 at this; omega
    · have : i = j := by omega
      subst this; rfl
theorem rises_eq1 {l : List NM} (h : RisesN l) {a b : NM} (ha : a ∈ l) (hb : b ∈ l) (h1 : a.nm = b.nm) : a = b := by
  obtain ⟨i, hi, rfl⟩ := List.getElem_of_mem ha
  obtain ⟨j, hj, rfl⟩ := List.getElem_of_mem hb
  have hp := List.pairwise_iff_getElem.1 h
  by_cases hij : i < j
  · have := hp i j hi hj hij
    rw [h1, ltS_irrefl] at this; cases this
  · by_cases hji : j < i
    · have := hp j i hj hi hji
      rw [h1, ltS_irrefl] at this; cases this
    · have : i = j := by omega
      subst this; rfl
theorem find_mem {l : List NM} (h : RisesN l) {x : NM} (hx : x ∈ l) : findN l x.nm = some x := by
  cases hf : findN l x.nm with
  | none =>
    unfold findN at hf
    have := List.find?_eq_none.1 hf x hx
    simp at this
  | some y =>
    unfold findN at hf
    have h1 := List.mem_of_find?_eq_some hf
    have h2 : y.nm = x.nm := by simpa using List.find?_some hf
    rw [rises_eq1 h h1 hx h2]
theorem four_nodup : (fourN.map (·.nm)).Nodup := by decide
/-- What Make answered where nothing is wrong. -/
structure Made (ok : List UInt8 → Bool) (d : DC) (l : List NM) : Prop where
  eq : l = fourN ++ (entsD d).map EN.name
  ok4 : ∀ e ∈ entsD d, ok e.nm = true
  rises : RisesN (sortN l)
  lt2 : l.Pairwise lt2
theorem made_of {ok : List UInt8 → Bool} {d : DC} {l : List NM} (h : runN ok (entsD d) fourN = .inr l) : Made ok d l := by
  obtain ⟨h1, h2⟩ := run_inr ok _ _ _ h
  exact ⟨h1, h2, sort_rises l (run_nodup ok _ _ _ four_nodup h), by rw [h1]; exact all_lt2 d⟩
theorem Made.find {ok : List UInt8 → Bool} {d : DC} {l : List NM} (h : Made ok d l) {x : NM} (hx : x ∈ sortN l) : findN (sortN l) x.nm = some x := find_mem h.rises hx
theorem Made.ok {ok : List UInt8 → Bool} {d : DC} {l : List NM} (h : Made ok d l) (h4 : ∀ x ∈ fourN, ok x.nm = true) {x : NM} (hx : x ∈ sortN l) : ok x.nm = true := by
  have hx := (sort_perm l).mem_iff.1 hx
  rw [h.eq] at hx
  rcases List.mem_append.1 hx with hx | hx
  · exact h4 x hx
  · obtain ⟨e, he, rfl⟩ := List.mem_map.1 hx
    exact h.ok4 e he
theorem Made.text {ok : List UInt8 → Bool} {d : DC} {l : List NM} (h : Made ok d l) {x : NM} (hx : x ∈ sortN l) : (((sortN l).find? fun y => decide (y.kd = x.kd ∧ y.nu = x.nu)).map (·.nm)).getD [] = x.nm := by
  cases hf : (sortN l).find? fun y => decide (y.kd = x.kd ∧ y.nu = x.nu) with
  | none =>
    have := List.find?_eq_none.1 hf x hx
    simp at this
  | some y =>
    have h1 := List.mem_of_find?_eq_some hf
    have h2 : y.kd = x.kd ∧ y.nu = x.nu := by simpa using List.find?_some hf
    have := lt2_eq h.lt2 ((sort_perm l).mem_iff.1 h1) ((sort_perm l).mem_iff.1 hx) h2.1 h2.2
    rw [this]; rfl
def cntD (d : DC) : Nat := d.fl.length + d.pr.length + d.gl.length + d.ob.length + d.ve.length + d.fu.length + d.da.length
theorem ents_cnt (d : DC) : (entsD d).length = cntD d := by
  simp [entsD, ents_len, cntD]; omega
theorem Made.len {ok : List UInt8 → Bool} {d : DC} {l : List NM} (h : Made ok d l) : (sortN l).length = cntD d + 4 := by
  rw [(sort_perm l).length_eq, h.eq, List.length_append, List.length_map, ents_cnt]
  show 4 + _ = _
  omega
theorem ents_nil (kd part most from_ : Int) (i : Nat) : entsF kd part most from_ [] i = [] := rfl
theorem runN_nil (ok : List UInt8 → Bool) (o : List NM) : runN ok [] o = .inr o := rfl
/-- What is declared ahead of a fault. -/
def aheadL (d : DC) (part : Int) : List (List UInt8) :=
  if part = 2 then d.fl else if part = 3 then d.pr else if part = 4 then d.gl else if part = 5 then d.ob else if part = 6 then d.ve else if part = 8 then d.fu else if part = 9 then d.da else []
def aheadD (d : DC) (part : Int) (k : Nat) : DC :=
  if part = 2 then ⟨d.fl.take k, [], [], [], [], [], []⟩ else if part = 3 then ⟨d.fl, d.pr.take k, [], [], [], [], []⟩ else if part = 4 then ⟨d.fl, d.pr, d.gl.take k, [], [], [], []⟩
  else if part = 5 then ⟨d.fl, d.pr, d.gl, d.ob.take k, [], [], []⟩ else if part = 6 then ⟨d.fl, d.pr, d.gl, d.ob, d.ve.take k, [], []⟩ else if part = 8 then ⟨d.fl, d.pr, d.gl, d.ob, d.ve, d.fu.take k, []⟩
  else if part = 9 then ⟨d.fl, d.pr, d.gl, d.ob, d.ve, d.fu, d.da.take k⟩ else d
theorem wrong_at {ok : List UInt8 → Bool} {d : DC} {c : Int} {e : EN} {out : List NM} (h : runN ok (entsD d) out = .inl (c, e)) :
    (e.part = 2 ∨ e.part = 3 ∨ e.part = 4 ∨ e.part = 5 ∨ e.part = 6 ∨ e.part = 8 ∨ e.part = 9) ∧ (∃ hk : e.at_ < (aheadL d e.part).length, (aheadL d e.part)[e.at_] = e.nm) ∧ ∃ o, runN ok (entsD (aheadD d e.part e.at_)) out = .inr o := by
  have done := fun (kd part most from_ : Int) (l : List (List UInt8)) (o : List NM) (h : runN ok (entsF kd part most from_ l 0) o = .inl (c, e)) => run_part ok kd part most from_ l 0 o c e h
  unfold entsD at h
  rw [run_app] at h
  split at h
  · rename_i f h1
    rw [h] at h1
    obtain ⟨k, hk, p1, p2, p3, o, p4⟩ := done _ _ _ _ _ _ h1
    rw [Nat.zero_add] at p2
    subst p2
    rw [p1]
    exact ⟨by decide, ⟨hk, p3.symm⟩, o, by simp [entsD, aheadD, ents_nil, p4]⟩
  · rename_i o1 h1
    rw [run_app] at h
    split at h
    · rename_i f h2
      rw [h] at h2
      obtain ⟨k, hk, p1, p2, p3, o, p4⟩ := done _ _ _ _ _ _ h2
      rw [Nat.zero_add] at p2
      subst p2
      rw [p1]
      exact ⟨by decide, ⟨hk, p3.symm⟩, o, by simp [entsD, aheadD, ents_nil, runN_nil, run_app, h1, p4]⟩
    · rename_i o2 h2
      rw [run_app] at h
      split at h
      · rename_i f h3
        rw [h] at h3
        obtain ⟨k, hk, p1, p2, p3, o, p4⟩ := done _ _ _ _ _ _ h3
        rw [Nat.zero_add] at p2
        subst p2
        rw [p1]
        exact ⟨by decide, ⟨hk, p3.symm⟩, o, by simp [entsD, aheadD, ents_nil, runN_nil, run_app, h1, h2, p4]⟩
      · rename_i o3 h3
        rw [run_app] at h
        split at h
        · rename_i f h4
          rw [h] at h4
          obtain ⟨k, hk, p1, p2, p3, o, p4⟩ := done _ _ _ _ _ _ h4
          rw [Nat.zero_add] at p2
          subst p2
          rw [p1]
          exact ⟨by decide, ⟨hk, p3.symm⟩, o, by simp [entsD, aheadD, ents_nil, runN_nil, run_app, h1, h2, h3, p4]⟩
        · rename_i o4 h4
          rw [run_app] at h
          split at h
          · rename_i f h5
            rw [h] at h5
            obtain ⟨k, hk, p1, p2, p3, o, p4⟩ := done _ _ _ _ _ _ h5
            rw [Nat.zero_add] at p2
            subst p2
            rw [p1]
            exact ⟨by decide, ⟨hk, p3.symm⟩, o, by simp [entsD, aheadD, ents_nil, runN_nil, run_app, h1, h2, h3, h4, p4]⟩
          · rename_i o5 h5
            rw [run_app] at h
            split at h
            · rename_i f h6
              rw [h] at h6
              obtain ⟨k, hk, p1, p2, p3, o, p4⟩ := done _ _ _ _ _ _ h6
              rw [Nat.zero_add] at p2
              subst p2
              rw [p1]
              exact ⟨by decide, ⟨hk, p3.symm⟩, o, by simp [entsD, aheadD, ents_nil, runN_nil, run_app, h1, h2, h3, h4, h5, p4]⟩
            · rename_i o6 h6
              obtain ⟨k, hk, p1, p2, p3, o, p4⟩ := done _ _ _ _ _ _ h
              rw [Nat.zero_add] at p2
              subst p2
              rw [p1]
              exact ⟨by decide, ⟨hk, p3.symm⟩, o, by simp [entsD, aheadD, ents_nil, runN_nil, run_app, h1, h2, h3, h4, h5, h6, p4]⟩
/-- One name more. -/
def growD (d : DC) (n : List UInt8) : DC := ⟨d.fl, d.pr, d.gl, d.ob, d.ve, d.fu, d.da ++ [n]⟩
theorem ents_snoc (kd part most from_ : Int) : ∀ (l : List (List UInt8)) (n : List UInt8) (i : Nat), entsF kd part most from_ (l ++ [n]) i = entsF kd part most from_ l i ++ [⟨n, kd, part, i + l.length, from_ + ((i + l.length : Nat) : Int), most⟩]
  | [], n, i => by simp [entsF]
  | x :: t, n, i => by
    rw [List.cons_append, entsF, entsF, ents_snoc kd part most from_ t n (i + 1)]
    have e : i + 1 + t.length = i + (x :: t).length := by simp; omega
    rw [e]; rfl
theorem ents_grow (d : DC) (n : List UInt8) : entsD (growD d n) = entsD d ++ [⟨n, 7, 9, d.da.length, (d.da.length : Int), 16⟩] := by
  simp [entsD, growD, ents_snoc]
theorem grow_inl {ok : List UInt8 → Bool} {d : DC} {n : List UInt8} {f : Int × EN} {out : List NM} (h : runN ok (entsD d) out = .inl f) : runN ok (entsD (growD d n)) out = .inl f := by
  rw [ents_grow, run_app, h]
theorem grow_inr {ok : List UInt8 → Bool} {d : DC} {n : List UInt8} {l m : List NM} {out : List NM} (h : runN ok (entsD d) out = .inr l) (h2 : runN ok (entsD (growD d n)) out = .inr m) : m = l ++ [⟨n, 7, (d.da.length : Int)⟩] := by
  rw [ents_grow, run_app, h] at h2
  exact (run_inr ok _ _ _ h2).1
end Go.Proofs.Ytdommneciojiaaa
