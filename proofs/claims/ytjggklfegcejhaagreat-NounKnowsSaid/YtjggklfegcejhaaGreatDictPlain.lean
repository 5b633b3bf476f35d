/- The plain law of package dict: entries that rise, the dictionary of words with bits, where a word stands. No program in sight. -/
import Derived.Test.YtjggklfegcejhaaGreatNamesPlain
namespace Go.Proofs.YtjggklfegcejhaaGreat
open Go.RowKit Go.PlainAid
set_option linter.unusedVariables false
set_option linter.unusedSimpArgs false

/-- An entry: a word, its bits. -/
structure EnC where
  wd : List UInt8
  bt : Int
deriving DecidableEq
def RisesE (l : List EnC) : Prop := l.Pairwise fun a b => ltS a.wd b.wd = true
/-- A bit, and a word that is to have it. -/
abbrev Ad := Nat × List UInt8
def bitsA : List Ad → List UInt8 → Nat
  | [], _ => 0
  | a :: t, w => if a.2 = w then a.1 ||| bitsA t w else bitsA t w
theorem bitsA_app : ∀ (a b : List Ad) (w : List UInt8), bitsA (a ++ b) w = bitsA a w ||| bitsA b w
  | [], b, w => by simp [bitsA]
  | x :: t, b, w => by
    rw [List.cons_append, bitsA, bitsA, bitsA_app t b w]
    split
    · rw [Nat.or_assoc]
    · rfl
theorem bitsA_snoc (a : List Ad) (n : Nat) (x w : List UInt8) : bitsA (a ++ [(n, x)]) w = if x = w then bitsA a w ||| n else bitsA a w := by
  rw [bitsA_app, bitsA, bitsA]
  split <;> simp
theorem bitsA_perm {a b : List Ad} (h : a.Perm b) (w : List UInt8) : bitsA a w = bitsA b w := by
  induction h with
  | nil => rfl
  | cons x _ ih => rw [bitsA, bitsA, ih]
  | swap x y l =>
    simp only [bitsA]
    split <;> split <;> first | rfl | (rw [← Nat.or_assoc, ← Nat.or_assoc, Nat.or_comm y.1])
  | trans _ _ ih1 ih2 => rw [ih1, ih2]
theorem bitsA_lt {ad : List Ad} (h : ∀ a ∈ ad, a.1 < 64) (w : List UInt8) : bitsA ad w < 64 := by
  induction ad with
  | nil => exact Nat.zero_lt_succ _
  | cons a t ih =>
    have h1 := ih (fun x hx => h x (List.mem_cons_of_mem _ hx))
    have h2 := h a (List.mem_cons_self ..)
    rw [bitsA]; split
    · exact Nat.or_lt_two_pow (n := 6) h2 h1
    · exact h1
theorem bitsA_none {ad : List Ad} {w : List UInt8} (h : ∀ a ∈ ad, a.2 ≠ w) : bitsA ad w = 0 := by
  induction ad with
  | nil => rfl
  | cons a t ih =>
    rw [bitsA, if_neg (h a (List.mem_cons_self ..)), ih (fun x hx => h x (List.mem_cons_of_mem _ hx))]
/-- A word's bits hold each bit that it is to have. -/
theorem bitsA_has {ad : List Ad} {n : Nat} {w : List UInt8} (h : (n, w) ∈ ad) : bitsA ad w &&& n = n := by
  induction ad with
  | nil => cases h
  | cons a t ih =>
    rw [bitsA]
    rcases List.mem_cons.1 h with e | e
    · subst e
      rw [if_pos rfl]
      apply Nat.eq_of_testBit_eq
      intro i
      simp only [Nat.testBit_and, Nat.testBit_or]
      cases n.testBit i <;> simp
    · have h1 := ih e
      split
      · apply Nat.eq_of_testBit_eq
        intro i
        have h2 := congrArg (fun k => Nat.testBit k i) h1
        simp only [Nat.testBit_and, Nat.testBit_or] at h2 ⊢
        cases h3 : n.testBit i
        · simp
        · rw [h3] at h2
          simp only [Bool.and_true] at h2 ⊢
          rw [h2]; simp
      · exact h1
/-- D is the dictionary of words with bits. -/
def DictIs (ad : List Ad) (D : List EnC) : Prop := RisesE D ∧ ∀ x : EnC, x ∈ D ↔ ((∃ a ∈ ad, a.2 = x.wd) ∧ x.bt = (bitsA ad x.wd : Int))
theorem DictIs.nil : DictIs [] [] := ⟨List.Pairwise.nil, fun x => ⟨fun h => (by cases h), fun ⟨⟨a, h, _⟩, _⟩ => (by cases h)⟩⟩
theorem risesE_nodup {l : List EnC} (h : RisesE l) : l.Nodup := List.Pairwise.imp (fun {a b} hab e => by subst e; rw [ltS_irrefl] at hab; cases hab) h
theorem risesE_words {l : List EnC} (h : RisesE l) : (l.map (·.wd)).Nodup := by
  rw [List.nodup_iff_pairwise_ne, List.pairwise_map]
  exact List.Pairwise.imp (fun {a b} hab e => by rw [e, ltS_irrefl] at hab; cases hab) h
/-- Two rising lists of the same entries are one. -/
theorem risesE_eq : ∀ (a b : List EnC), RisesE a → RisesE b → (∀ x, x ∈ a ↔ x ∈ b) → a = b
  | [], [], _, _, _ => rfl
  | [], y :: t, _, _, h => by have := (h y).2 (List.mem_cons_self ..); cases this
  | x :: s, [], _, _, h => by have := (h x).1 (List.mem_cons_self ..); cases this
  | x :: s, y :: t, ha, hb, h => by
    have ha' := List.pairwise_cons.1 ha
    have hb' := List.pairwise_cons.1 hb
    have hxy : x = y := by
      rcases List.mem_cons.1 ((h x).1 (List.mem_cons_self ..)) with e | e
      · exact e
      · rcases List.mem_cons.1 ((h y).2 (List.mem_cons_self ..)) with e2 | e2
        · exact e2.symm
        · have a1 := hb'.1 x e
          have a2 := ha'.1 y e2
          rw [ltS_asymm a1] at a2; cases a2
    subst hxy
    have hxs : x ∉ s := fun hx => by have := ha'.1 x hx; rw [ltS_irrefl] at this; cases this
    have hxt : x ∉ t := fun hx => by have := hb'.1 x hx; rw [ltS_irrefl] at this; cases this
    rw [risesE_eq s t ha'.2 hb'.2 (fun z => ⟨fun hz => by
      rcases List.mem_cons.1 ((h z).1 (List.mem_cons_of_mem _ hz)) with e | e
      · subst e; exact absurd hz hxs
      · exact e, fun hz => by
      rcases List.mem_cons.1 ((h z).2 (List.mem_cons_of_mem _ hz)) with e | e
      · subst e; exact absurd hz hxt
      · exact e⟩)]
theorem dict_eq {ad bs : List Ad} {D E : List EnC} (h : DictIs ad D) (g : DictIs bs E) (hp : ad.Perm bs) : D = E :=
  risesE_eq D E h.1 g.1 (fun x => by
    rw [h.2 x, g.2 x, bitsA_perm hp]
    have : (∃ a ∈ ad, a.2 = x.wd) ↔ ∃ a ∈ bs, a.2 = x.wd := ⟨fun ⟨a, h1, h2⟩ => ⟨a, hp.mem_iff.1 h1, h2⟩, fun ⟨a, h1, h2⟩ => ⟨a, hp.mem_iff.2 h1, h2⟩⟩
    rw [this])
theorem dict_bits {ad : List Ad} {D : List EnC} (h : DictIs ad D) (hb : ∀ a ∈ ad, a.1 < 64) : ∀ x ∈ D, ∃ n : Nat, n < 64 ∧ x.bt = n := fun x hx => ⟨_, bitsA_lt hb x.wd, ((h.2 x).1 hx).2⟩
theorem dict_word {ad : List Ad} {D : List EnC} (h : DictIs ad D) : ∀ x ∈ D, ∃ a ∈ ad, a.2 = x.wd := fun x hx => ((h.2 x).1 hx).1
theorem nodup_sub_len {α : Type} [DecidableEq α] : ∀ (l m : List α), l.Nodup → (∀ x ∈ l, x ∈ m) → l.length ≤ m.length
  | [], m, _, _ => Nat.zero_le _
  | x :: t, m, hn, hs => by
    have h1 := List.nodup_cons.1 hn
    have hx := hs x (List.mem_cons_self ..)
    have h2 := nodup_sub_len t (m.erase x) h1.2 (fun y hy => (List.mem_erase_of_ne (fun e => h1.1 (by rw [← e]; exact hy))).2 (hs y (List.mem_cons_of_mem _ hy)))
    have h3 := List.length_erase_of_mem hx
    have h4 := List.length_pos_of_mem hx
    rw [List.length_cons]; omega
theorem dict_len {ad : List Ad} {D : List EnC} (h : DictIs ad D) : D.length ≤ ad.length := by
  have := nodup_sub_len (D.map (·.wd)) (ad.map (·.2)) (risesE_words h.1) (fun w hw => by
    obtain ⟨x, hx, rfl⟩ := List.mem_map.1 hw
    obtain ⟨a, h1, h2⟩ := dict_word h x hx
    exact List.mem_map.2 ⟨a, h1, h2⟩)
  simpa using this

/-! ### The reference's with -/
def orI (a b : Int) : Int := ((a.toNat ||| b.toNat : Nat) : Int)
/-- What stands behind a place once with's loop has gone on from it. -/
def withGo (w : List UInt8) (b : Int) : List EnC → Bool → List EnC
  | [], done => if done = true then [] else [⟨w, b⟩]
  | e :: t, done => if e.wd = w then ⟨e.wd, orI e.bt b⟩ :: withGo w b t true else if done = false ∧ ltS w e.wd = true then ⟨w, b⟩ :: e :: withGo w b t true else e :: withGo w b t done
theorem withGo_true (w : List UInt8) (b : Int) : ∀ t : List EnC, (∀ e ∈ t, e.wd ≠ w) → withGo w b t true = t
  | [], _ => by simp [withGo]
  | e :: t, h => by
    rw [withGo, if_neg (h e (List.mem_cons_self ..)), if_neg (by simp), withGo_true w b t (fun x hx => h x (List.mem_cons_of_mem _ hx))]
theorem withGo_mem (w : List UInt8) (b : Int) : ∀ (D : List EnC), RisesE D → ∀ x, x ∈ withGo w b D false ↔ (x ∈ D ∧ x.wd ≠ w) ∨ (x.wd = w ∧ ((∃ e ∈ D, e.wd = w ∧ x.bt = orI e.bt b) ∨ ((∀ e ∈ D, e.wd ≠ w) ∧ x.bt = b)))
  | [], _, x => by
    rw [withGo, if_neg (by simp)]
    simp
    constructor
    · rintro rfl; exact ⟨rfl, rfl⟩
    · rintro ⟨h1, h2⟩; cases x; simp_all
  | e :: t, h, x => by
    have h' := List.pairwise_cons.1 h
    rw [withGo]
    by_cases he : e.wd = w
    · have hne : ∀ y ∈ t, y.wd ≠ w := fun y hy e2 => by have := h'.1 y hy; rw [he, e2, ltS_irrefl] at this; cases this
      rw [if_pos he, withGo_true w b t hne]
      constructor
      · intro hx
        rcases List.mem_cons.1 hx with rfl | hx
        · exact .inr ⟨he, .inl ⟨e, List.mem_cons_self .., he, rfl⟩⟩
        · exact .inl ⟨List.mem_cons_of_mem _ hx, hne x hx⟩
      · rintro (⟨hx, hxw⟩ | ⟨hxw, h1 | h1⟩)
        · rcases List.mem_cons.1 hx with rfl | hx
          · exact absurd he hxw
          · exact List.mem_cons_of_mem _ hx
        · obtain ⟨y, hy, hyw, hb⟩ := h1
          rcases List.mem_cons.1 hy with rfl | hy
          · cases x; simp_all
          · exact absurd hyw (hne y hy)
        · exact absurd he (h1.1 e (List.mem_cons_self ..))
    · rw [if_neg he]
      by_cases hl : ltS w e.wd = true
      · have hne : ∀ y ∈ t, y.wd ≠ w := fun y hy e2 => by have := h'.1 y hy; rw [e2, ltS_asymm hl] at this; cases this
        rw [if_pos ⟨rfl, hl⟩, withGo_true w b t hne]
        constructor
        · intro hx
          rcases List.mem_cons.1 hx with rfl | hx
          · exact .inr ⟨rfl, .inr ⟨fun y hy => by
              rcases List.mem_cons.1 hy with rfl | hy
              · exact he
              · exact hne y hy, rfl⟩⟩
          · refine .inl ⟨hx, ?_⟩
            rcases List.mem_cons.1 hx with rfl | hx
            · exact he
            · exact hne x hx
        · rintro (⟨hx, hxw⟩ | ⟨hxw, h1 | h1⟩)
          · exact List.mem_cons_of_mem _ hx
          · obtain ⟨y, hy, hyw, hb⟩ := h1
            rcases List.mem_cons.1 hy with rfl | hy
            · exact absurd hyw he
            · exact absurd hyw (hne y hy)
          · refine List.mem_cons.2 (.inl ?_)
            cases x; simp_all
      · rw [if_neg (fun h => hl h.2), List.mem_cons, withGo_mem w b t h'.2 x]
        constructor
        · rintro (rfl | ⟨hx, hxw⟩ | ⟨hxw, h1 | h1⟩)
          · exact .inl ⟨List.mem_cons_self .., he⟩
          · exact .inl ⟨List.mem_cons_of_mem _ hx, hxw⟩
          · obtain ⟨y, hy, h2⟩ := h1
            exact .inr ⟨hxw, .inl ⟨y, List.mem_cons_of_mem _ hy, h2⟩⟩
          · refine .inr ⟨hxw, .inr ⟨fun y hy => ?_, h1.2⟩⟩
            rcases List.mem_cons.1 hy with rfl | hy
            · exact he
            · exact h1.1 y hy
        · rintro (⟨hx, hxw⟩ | ⟨hxw, h1 | h1⟩)
          · rcases List.mem_cons.1 hx with rfl | hx
            · exact .inl rfl
            · exact .inr (.inl ⟨hx, hxw⟩)
          · obtain ⟨y, hy, hyw, h2⟩ := h1
            rcases List.mem_cons.1 hy with rfl | hy
            · exact absurd hyw he
            · exact .inr (.inr ⟨hxw, .inl ⟨y, hy, hyw, h2⟩⟩)
          · exact .inr (.inr ⟨hxw, .inr ⟨fun y hy => h1.1 y (List.mem_cons_of_mem _ hy), h1.2⟩⟩)
theorem withGo_word (w : List UInt8) (b : Int) : ∀ (D : List EnC) (done : Bool), ∀ x ∈ withGo w b D done, x.wd = w ∨ ∃ e ∈ D, e.wd = x.wd
  | [], done, x, hx => by
    rw [withGo] at hx
    split at hx
    · cases hx
    · left; rw [List.mem_singleton.1 hx]
  | e :: t, done, x, hx => by
    have ih := fun d hx => withGo_word w b t d x hx
    have up : (x.wd = w ∨ ∃ e ∈ t, e.wd = x.wd) → x.wd = w ∨ ∃ y ∈ e :: t, y.wd = x.wd := fun h => h.imp id (fun ⟨y, h1, h2⟩ => ⟨y, List.mem_cons_of_mem _ h1, h2⟩)
    rw [withGo] at hx
    split at hx
    · rename_i he
      rcases List.mem_cons.1 hx with rfl | hx
      · exact .inl he
      · exact up (ih _ hx)
    · split at hx
      · rcases List.mem_cons.1 hx with rfl | hx
        · exact .inl rfl
        · rcases List.mem_cons.1 hx with rfl | hx
          · exact .inr ⟨_, List.mem_cons_self .., rfl⟩
          · exact up (ih _ hx)
      · rcases List.mem_cons.1 hx with rfl | hx
        · exact .inr ⟨_, List.mem_cons_self .., rfl⟩
        · exact up (ih _ hx)
theorem withGo_rises (w : List UInt8) (b : Int) : ∀ (D : List EnC), RisesE D → RisesE (withGo w b D false)
  | [], _ => by rw [withGo, if_neg (by simp)]; exact List.pairwise_singleton _ _
  | e :: t, h => by
    have h' := List.pairwise_cons.1 h
    rw [withGo]
    by_cases he : e.wd = w
    · have hne : ∀ y ∈ t, y.wd ≠ w := fun y hy e2 => by have := h'.1 y hy; rw [he, e2, ltS_irrefl] at this; cases this
      rw [if_pos he, withGo_true w b t hne]
      exact List.pairwise_cons.2 ⟨fun y hy => h'.1 y hy, h'.2⟩
    · rw [if_neg he]
      by_cases hl : ltS w e.wd = true
      · have hne : ∀ y ∈ t, y.wd ≠ w := fun y hy e2 => by have := h'.1 y hy; rw [e2, ltS_asymm hl] at this; cases this
        rw [if_pos ⟨rfl, hl⟩, withGo_true w b t hne]
        refine List.pairwise_cons.2 ⟨fun y hy => ?_, h⟩
        rcases List.mem_cons.1 hy with rfl | hy
        · exact hl
        · exact ltS_trans hl (h'.1 y hy)
      · rw [if_neg (fun h => hl h.2)]
        have hew : ltS e.wd w = true := by
          cases h3 : ltS e.wd w with
          | true => rfl
          | false => exact absurd (ltS_eq h3 (by simpa using hl)) he
        refine List.pairwise_cons.2 ⟨fun y hy => ?_, withGo_rises w b t h'.2⟩
        rcases withGo_word w b t false y hy with e1 | ⟨z, hz, e1⟩
        · rw [e1]; exact hew
        · rw [← e1]; exact h'.1 z hz
/-- A word with a bit more. -/
theorem with_is {ad : List Ad} {D : List EnC} (h : DictIs ad D) (n : Nat) (w : List UInt8) : DictIs (ad ++ [(n, w)]) (withGo w n D false) := by
  refine ⟨withGo_rises w n D h.1, fun x => ?_⟩
  rw [withGo_mem w n D h.1 x, bitsA_snoc]
  have hz : ∀ k : Nat, (k : Int).toNat = k := fun k => by omega
  constructor
  · rintro (⟨hx, hxw⟩ | ⟨hxw, h1 | h1⟩)
    · obtain ⟨⟨a, h2, h3⟩, h4⟩ := (h.2 x).1 hx
      exact ⟨⟨a, List.mem_append_left _ h2, h3⟩, by rw [if_neg (fun e => hxw e.symm)]; exact h4⟩
    · obtain ⟨e, he, hew, hb⟩ := h1
      obtain ⟨⟨a, h2, h3⟩, h4⟩ := (h.2 e).1 he
      refine ⟨⟨a, List.mem_append_left _ h2, by rw [h3, hew, hxw]⟩, ?_⟩
      rw [if_pos hxw.symm, hb, orI, h4, hz, hz, hew, hxw]
    · refine ⟨⟨(n, w), List.mem_append_right _ (List.mem_singleton.2 rfl), hxw.symm⟩, ?_⟩
      have h0 : bitsA ad w = 0 := bitsA_none (fun a ha hw => h1.1 ⟨w, bitsA ad w⟩ ((h.2 _).2 ⟨⟨a, ha, hw⟩, rfl⟩) rfl)
      rw [if_pos hxw.symm, h1.2, hxw, h0, Nat.zero_or]
  · rintro ⟨⟨a, ha, haw⟩, hb⟩
    by_cases hxw : x.wd = w
    · right
      refine ⟨hxw, ?_⟩
      rw [if_pos hxw.symm] at hb
      by_cases hex : ∃ e ∈ D, e.wd = w
      · obtain ⟨e, he, hew⟩ := hex
        refine .inl ⟨e, he, hew, ?_⟩
        have h4 := ((h.2 e).1 he).2
        rw [orI, h4, hz, hz, hb, hew, hxw]
      · have hno : ∀ e ∈ D, e.wd ≠ w := fun e he hew => hex ⟨e, he, hew⟩
        refine .inr ⟨hno, ?_⟩
        have h0 : bitsA ad w = 0 := bitsA_none (fun a ha hw => hno ⟨w, bitsA ad w⟩ ((h.2 _).2 ⟨⟨a, ha, hw⟩, rfl⟩) rfl)
        rw [hb, hxw, h0, Nat.zero_or]
    · left
      rw [if_neg (fun e => hxw e.symm)] at hb
      refine ⟨(h.2 x).2 ⟨?_, hb⟩, hxw⟩
      rcases List.mem_append.1 ha with ha | ha
      · exact ⟨a, ha, haw⟩
      · rw [List.mem_singleton.1 ha] at haw; exact absurd haw.symm hxw

/-! ### Where a word stands -/
def findE (D : List EnC) (k : List UInt8) : Int := match D.findIdx? (fun e => decide (e.wd = k)) with | some i => (i : Int) | none => -1
theorem findE_at {D : List EnC} {k : List UInt8} {i : Nat} (hi : i < D.length) (h1 : ∀ j (hj : j < D.length), j < i → (D[j]).wd ≠ k) (h2 : (D[i]).wd = k) : findE D k = i := by
  unfold findE
  have : D.findIdx? (fun e => decide (e.wd = k)) = some i := by
    rw [List.findIdx?_eq_some_iff_getElem]
    exact ⟨hi, by simpa using h2, fun j hj => by simpa using h1 j (by omega) hj⟩
  rw [this]
theorem findE_none {D : List EnC} {k : List UInt8} (h : ∀ e ∈ D, e.wd ≠ k) : findE D k = -1 := by
  unfold findE
  have : D.findIdx? (fun e => decide (e.wd = k)) = none := by
    rw [List.findIdx?_eq_none_iff]
    intro e he; simpa using h e he
  rw [this]
theorem findE_cases (D : List EnC) (k : List UInt8) : (∃ i, ∃ h : i < D.length, findE D k = i ∧ (D[i]).wd = k) ∨ (findE D k = -1 ∧ ∀ e ∈ D, e.wd ≠ k) := by
  unfold findE
  cases h : D.findIdx? (fun e => decide (e.wd = k)) with
  | some i =>
    rw [List.findIdx?_eq_some_iff_getElem] at h
    obtain ⟨h1, h2, _⟩ := h
    exact .inl ⟨i, h1, rfl, by simpa using h2⟩
  | none =>
    rw [List.findIdx?_eq_none_iff] at h
    exact .inr ⟨rfl, fun e he => by simpa using h e he⟩
/-- A word's bits. -/
def bitsE (D : List EnC) (k : List UInt8) : Int := match D.find? (fun e => decide (e.wd = k)) with | some e => e.bt | none => 0
theorem bitsE_none {D : List EnC} {k : List UInt8} (h : ∀ e ∈ D, e.wd ≠ k) : bitsE D k = 0 := by
  unfold bitsE
  have : D.find? (fun e => decide (e.wd = k)) = none := by
    rw [List.find?_eq_none]; intro e he; simpa using h e he
  rw [this]
theorem bitsE_at {D : List EnC} {k : List UInt8} {i : Nat} (hi : i < D.length) (hf : findE D k = i) : bitsE D k = (D[i]).bt := by
  unfold findE at hf
  unfold bitsE
  cases h : D.findIdx? (fun e => decide (e.wd = k)) with
  | none => rw [h] at hf; simp at hf
  | some j =>
    rw [h] at hf
    have hj : j = i := by simp at hf; omega
    subst hj
    rw [List.findIdx?_eq_some_iff_getElem] at h
    obtain ⟨h1, h2, h3⟩ := h
    have : D.find? (fun e => decide (e.wd = k)) = some D[j] := by
      rw [List.find?_eq_some_iff_getElem]
      exact ⟨h2, j, h1, rfl, fun m hm => by have := h3 m hm; simpa using this⟩
    rw [this]
theorem bitsE_dict {ad : List Ad} {D : List EnC} (h : DictIs ad D) (k : List UInt8) : bitsE D k = (bitsA ad k : Int) := by
  unfold bitsE
  cases hf : D.find? (fun e => decide (e.wd = k)) with
  | some e =>
    have h1 := List.mem_of_find?_eq_some hf
    have h2 := List.find?_some hf
    have h3 : e.wd = k := by simpa using h2
    show e.bt = _
    rw [((h.2 e).1 h1).2, h3]
  | none =>
    rw [List.find?_eq_none] at hf
    have : bitsA ad k = 0 := bitsA_none (fun a ha e => by
      have h1 := hf ⟨k, bitsA ad k⟩ ((h.2 _).2 ⟨⟨a, ha, e⟩, rfl⟩)
      simp at h1)
    rw [this]; rfl
/-- Where the search ends. -/
theorem findE_pos {D : List EnC} {k : List UInt8} (hr : RisesE D) {i : Nat} (h1 : ∀ j (hj : j < D.length), j < i → ltS (D[j]).wd k = true) (h2 : ∀ j (hj : j < D.length), i ≤ j → ltS (D[j]).wd k = false) :
    (∀ (h : i < D.length), (D[i]).wd = k → findE D k = i) ∧ ((¬ ∃ h : i < D.length, (D[i]).wd = k) → findE D k = -1) := by
  refine ⟨fun h e => findE_at h (fun j hj hji e2 => by have := h1 j hj hji; rw [e2, ltS_irrefl] at this; cases this) e, fun h => findE_none fun x hx e => ?_⟩
  obtain ⟨j, hj, rfl⟩ := List.getElem_of_mem hx
  by_cases hji : j < i
  · have := h1 j hj hji; rw [e, ltS_irrefl] at this; cases this
  · have hil : i < D.length := by omega
    apply h
    refine ⟨hil, ?_⟩
    by_cases he : j = i
    · subst he; exact e
    · have h3 := h2 i hil (Nat.le_refl _)
      have h4 := (List.pairwise_iff_getElem.1 hr) i j hil hj (by omega)
      rw [e] at h4
      rw [h3] at h4; cases h4
theorem posE_ex (D : List EnC) (n : List UInt8) (h : RisesE D) : ∀ i j (hi : i < D.length) (hj : j < D.length), i < j → ltS (D[j]).wd n = true → ltS (D[i]).wd n = true := fun i j hi hj hij hl =>
  ltS_trans ((List.pairwise_iff_getElem.1 h) i j hi hj hij) hl
/-- Sorted entries of words met once each are the dictionary. -/
theorem dict_sorted {ad : List Ad} {L D : List EnC} (hL : ∀ x, x ∈ L ↔ ((∃ a ∈ ad, a.2 = x.wd) ∧ x.bt = (bitsA ad x.wd : Int))) (hp : D.Perm L) (hr : RisesE D) : DictIs ad D :=
  ⟨hr, fun x => by rw [hp.mem_iff, hL x]⟩

/-! ### Directions -/
def dirsW : List (List UInt8) := [[110, 111, 114, 116, 104], [115, 111, 117, 116, 104], [101, 97, 115, 116], [119, 101, 115, 116], [110, 111, 114, 116, 104, 101, 97, 115, 116], [110, 111, 114, 116, 104, 119, 101, 115, 116], [115, 111, 117, 116, 104, 101, 97, 115, 116], [115, 111, 117, 116, 104, 119, 101, 115, 116], [117, 112], [100, 111, 119, 110], [105, 110], [111, 117, 116]]
def shortW : List (List UInt8) := [[110], [115], [101], [119], [110, 101], [110, 119], [115, 101], [115, 119], [117], [100]]
def extraW : List (List UInt8) := [[116, 104, 101], [97], [97, 110], [105, 116], [97, 108, 108], [101, 118, 101, 114, 121, 116, 104, 105, 110], [97, 110, 100], [101, 120, 99, 101, 112, 116], [98, 117, 116], [116, 104, 101, 110]]
/-- Where a word stands among some, from a place on; -1: nowhere. -/
def idxL (k : List UInt8) : List (List UInt8) → Nat → Int
  | [], _ => -1
  | x :: t, i => if x = k then (i : Int) else idxL k t (i + 1)
def dirK (k : List UInt8) : Int := max (idxL k dirsW 0) (idxL k shortW 0) + 1
theorem idxL_none {k : List UInt8} : ∀ (l : List (List UInt8)) (i : Nat), (∀ x ∈ l, x ≠ k) → idxL k l i = -1
  | [], _, _ => rfl
  | x :: t, i, h => by rw [idxL, if_neg (h x (List.mem_cons_self ..)), idxL_none t (i + 1) (fun y hy => h y (List.mem_cons_of_mem _ hy))]
theorem dirK_none {k : List UInt8} (h : k ∉ dirsW ++ shortW) : dirK k = 0 := by
  unfold dirK
  rw [idxL_none _ _ (fun x hx e => h (by rw [← e]; exact List.mem_append_left _ hx)), idxL_none _ _ (fun x hx e => h (by rw [← e]; exact List.mem_append_right _ hx))]; rfl
/-- What the reference's loop asks at a place. -/
def dirHit (k : List UInt8) (i : Nat) : Bool := decide (dirsW[i]? = some k) || decide (shortW[i]? = some k)
theorem dirK_all : ∀ k ∈ dirsW ++ shortW, ∃ i, i < 12 ∧ dirHit k i = true ∧ (∀ j, j < i → dirHit k j = false) ∧ dirK k = (i : Int) + 1 := by
  have h : ((dirsW ++ shortW).all fun k => (List.range 12).any fun i => dirHit k i && (List.range i).all (fun j => !dirHit k j) && decide (dirK k = (i : Int) + 1)) = true := by decide +kernel
  intro k hk
  have h1 := List.all_eq_true.1 h k hk
  obtain ⟨i, hi, h2⟩ := List.any_eq_true.1 h1
  simp only [Bool.and_eq_true, decide_eq_true_eq] at h2
  refine ⟨i, List.mem_range.1 hi, h2.1.1, fun j hj => ?_, h2.2⟩
  have := List.all_eq_true.1 h2.1.2 j (List.mem_range.2 hj)
  simpa using this
theorem dirHit_mem {k : List UInt8} {i : Nat} (h : dirHit k i = true) : k ∈ dirsW ++ shortW := by
  unfold dirHit at h
  simp only [Bool.or_eq_true, decide_eq_true_eq] at h
  rcases h with h | h
  · exact List.mem_append_left _ (List.mem_of_getElem? h)
  · exact List.mem_append_right _ (List.mem_of_getElem? h)
/-- The first place that hits tells the direction. -/
theorem dirK_at {k : List UInt8} {i : Nat} (h : dirHit k i = true) (hb : ∀ j, j < i → dirHit k j = false) : dirK k = (i : Int) + 1 := by
  obtain ⟨m, _, h1, h2, h3⟩ := dirK_all k (dirHit_mem h)
  have : i = m := by
    rcases Nat.lt_trichotomy i m with hl | hl | hl
    · rw [h2 i hl] at h; cases h
    · exact hl
    · rw [hb m hl] at h1; cases h1
  rw [this, h3]
theorem dirK_no {k : List UInt8} (hb : ∀ j, j < 12 → dirHit k j = false) : dirK k = 0 :=
  dirK_none fun hk => by
    obtain ⟨i, hi, h1, _⟩ := dirK_all k hk
    rw [hb i hi] at h1; cases h1
/-- What a direction's word has in any dictionary that holds the directions. -/
theorem dirK_mem {k : List UInt8} (h : dirK k ≠ 0) : k ∈ dirsW ++ shortW := by
  by_cases hk : k ∈ dirsW ++ shortW
  · exact hk
  · exact absurd (dirK_none hk) h

/-! ### Keys -/
def shortL (l : List UInt8) : List UInt8 := l.take 9
def keyW (l : List UInt8) : List UInt8 := (l.map lowU).take 9
theorem lowU_idem (c : UInt8) : lowU (lowU c) = lowU c := by
  cases h : greatB (c.toNat : Int) with
  | false => rw [lowU_other h, lowU_other h]
  | true =>
    have h1 := lowU_great h
    have h2 : greatB ((lowU c).toNat : Int) = false := by
      simp only [greatB, decide_eq_true_eq] at h
      simp only [greatB, decide_eq_false_iff_not]; omega
    rw [lowU_other h2]
theorem keyW_low (l : List UInt8) : keyW (l.map lowU) = keyW l := by
  unfold keyW
  rw [List.map_map]
  congr 1
  exact List.map_congr_left (fun c _ => lowU_idem c)
theorem keyW_long {l : List UInt8} (h : 9 ≤ l.length) (x : List UInt8) : keyW (l ++ x) = keyW l := by
  unfold keyW
  rw [List.map_append, List.take_append_of_le_length (by simpa using h)]
theorem keyW_len (l : List UInt8) : (keyW l).length ≤ 9 := by unfold keyW; exact List.length_take_le _ _
end Go.Proofs.YtjggklfegcejhaaGreat
