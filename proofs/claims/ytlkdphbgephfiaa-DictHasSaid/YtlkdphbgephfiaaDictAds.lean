/- The words of tables, with their bits: the plain lists. -/
import Derived.Test.YtlkdphbgephfiaaDictAll
import Derived.Test.YtlkdphbgephfiaaFitsD
namespace Go.Proofs.Ytlkdphbgephfiaa
open Go.RowKit Go.PlainAid
set_option linter.unusedVariables false
set_option linter.unusedSimpArgs false

def mkA (n : Nat) (l : List TxC) : List Ad := l.map fun x => (n, x)
def thA (x : ThC) : List Ad := mkA 1 x.wd ++ mkA 2 x.ad
def bitA (i : Nat) : Nat := if i = 0 then 4 else 8
def lineA : List SlC → Nat → List Ad
  | [], _ => []
  | s :: t, i => mkA (bitA i) s.wd ++ lineA t (i + 1)
def acA (a : AcC) : List Ad := (a.ln.map fun l => lineA l 0).flatten
def thsA (l : List ThC) : List Ad := (l.map thA).flatten
def acsA (l : List AcC) : List Ad := (l.map acA).flatten
def baseA : List Ad := mkA 16 dirsW ++ mkA 16 shortW ++ mkA 32 extraW
def adsR (t : TbC) : List Ad := baseA ++ (thsA t.th ++ acsA t.ac)
def adsP (t : TbC) : List Ad := (thsA t.th ++ acsA t.ac) ++ baseA
theorem ads_perm (t : TbC) : (adsR t).Perm (adsP t) := List.perm_append_comm
theorem ths_drop (l : List ThC) (p : Nat) (h : p < l.length) : thsA (l.drop p) = thA l[p] ++ thsA (l.drop (p + 1)) := by
  unfold thsA; rw [List.drop_eq_getElem_cons h]; rfl
theorem acs_drop (l : List AcC) (p : Nat) (h : p < l.length) : acsA (l.drop p) = acA l[p] ++ acsA (l.drop (p + 1)) := by
  unfold acsA; rw [List.drop_eq_getElem_cons h]; rfl
theorem lns_drop (l : List (List SlC)) (p : Nat) (h : p < l.length) : ((l.drop p).map fun l => lineA l 0).flatten = lineA l[p] 0 ++ ((l.drop (p + 1)).map fun l => lineA l 0).flatten := by
  rw [List.drop_eq_getElem_cons h]; rfl
theorem line_drop (l : List SlC) (p : Nat) (h : p < l.length) : lineA (l.drop p) p = mkA (bitA p) l[p].wd ++ lineA (l.drop (p + 1)) (p + 1) := by
  rw [List.drop_eq_getElem_cons h]; rfl
/-- Tables whose words are few. -/
structure TabFew (t : TbC) : Prop where
  th : t.th.length ≤ 128
  wd : ∀ x ∈ t.th, x.wd.length ≤ 8 ∧ x.ad.length ≤ 8
  ac : t.ac.length ≤ 64
  ln : ∀ a ∈ t.ac, a.ln.length ≤ 8
  sl : ∀ a ∈ t.ac, ∀ l ∈ a.ln, l.length ≤ 8
  sw : ∀ a ∈ t.ac, ∀ l ∈ a.ln, ∀ s ∈ l, s.wd.length ≤ 4
theorem flat_le {α β : Type} (f : α → List β) (k : Nat) : ∀ (l : List α), (∀ x ∈ l, (f x).length ≤ k) → ((l.map f).flatten).length ≤ l.length * k
  | [], _ => by simp
  | x :: t, h => by
    have h1 := flat_le f k t (fun y hy => h y (List.mem_cons_of_mem _ hy))
    have h2 := h x (List.mem_cons_self ..)
    rw [List.map_cons, List.flatten_cons, List.length_append, List.length_cons, Nat.add_mul]
    omega
theorem line_le (k : Nat) : ∀ (l : List SlC) (i : Nat), (∀ s ∈ l, s.wd.length ≤ k) → (lineA l i).length ≤ l.length * k
  | [], _, _ => by simp [lineA]
  | s :: t, i, h => by
    have h1 := line_le k t (i + 1) (fun y hy => h y (List.mem_cons_of_mem _ hy))
    have h2 := h s (List.mem_cons_self ..)
    rw [lineA, List.length_append, List.length_cons, Nat.add_mul]
    simp [mkA]; omega
theorem ads_le {t : TbC} (h : TabFew t) : (thsA t.th ++ acsA t.ac).length ≤ 20000 := by
  have h1 : (thsA t.th).length ≤ t.th.length * 16 := flat_le thA 16 t.th (fun x hx => by
    have := h.wd x hx
    unfold thA mkA; simp; omega)
  have h2 : (acsA t.ac).length ≤ t.ac.length * 256 := flat_le acA 256 t.ac (fun a ha => by
    have h3 : (acA a).length ≤ a.ln.length * 32 := flat_le (fun l => lineA l 0) 32 a.ln (fun l hl => by
      have h4 := line_le 4 l 0 (h.sw a ha l hl)
      have h5 := h.sl a ha l hl
      omega)
    have h6 := h.ln a ha
    omega)
  have h7 := h.th
  have h8 := h.ac
  rw [List.length_append]; omega
theorem adsR_le {t : TbC} (h : TabFew t) : (adsR t).length ≤ 30000 := by
  have h1 := ads_le h
  have h2 : baseA.length = 32 := by decide +kernel
  unfold adsR
  rw [List.length_append, h2]; omega
theorem adsP_le {t : TbC} (h : TabFew t) : (adsP t).length ≤ 30000 := by rw [← (ads_perm t).length_eq]; exact adsR_le h
/-- The tables' words have lengths that are ones. -/
def WordsIn (t : TbC) : Prop := (∀ x ∈ t.th, (∀ y ∈ x.wd, y.length ≤ maxLen) ∧ ∀ y ∈ x.ad, y.length ≤ maxLen) ∧ ∀ a ∈ t.ac, ∀ l ∈ a.ln, ∀ s ∈ l, ∀ y ∈ s.wd, y.length ≤ maxLen
theorem line_ok : ∀ (l : List SlC) (i : Nat), (∀ s ∈ l, ∀ y ∈ s.wd, y.length ≤ maxLen) → AdsOk (lineA l i)
  | [], _, _ => fun a ha => by cases ha
  | s :: t, i, h => (AdsOk.of (by unfold bitA; split <;> decide) (h s (List.mem_cons_self ..))).app (line_ok t (i + 1) (fun y hy => h y (List.mem_cons_of_mem _ hy)))
theorem ads_ok {t : TbC} (h : WordsIn t) : AdsOk (thsA t.th ++ acsA t.ac) := by
  refine AdsOk.app (fun a ha => ?_) (fun a ha => ?_)
  · obtain ⟨l, hl, ha⟩ := List.mem_flatten.1 ha
    obtain ⟨x, hx, rfl⟩ := List.mem_map.1 hl
    exact ((AdsOk.of (by decide) (h.1 x hx).1).app (AdsOk.of (by decide) (h.1 x hx).2)) a ha
  · obtain ⟨l, hl, ha⟩ := List.mem_flatten.1 ha
    obtain ⟨x, hx, rfl⟩ := List.mem_map.1 hl
    obtain ⟨m, hm, ha⟩ := List.mem_flatten.1 ha
    obtain ⟨y, hy, rfl⟩ := List.mem_map.1 hm
    exact line_ok y 0 (h.2 x hx y hy) a ha
theorem base_ok : AdsOk baseA := by
  have h : (baseA.all fun a => decide (a.1 < 64) && decide (a.2.length ≤ 1000)) = true := by decide +kernel
  intro a ha
  have := List.all_eq_true.1 h a ha
  simp only [Bool.and_eq_true, decide_eq_true_eq] at this
  exact ⟨this.1, by unfold maxLen; omega⟩
theorem adsR_ok {t : TbC} (h : WordsIn t) : AdsOk (adsR t) := base_ok.app (ads_ok h)
theorem adsP_ok {t : TbC} (h : WordsIn t) : AdsOk (adsP t) := (ads_ok h).app base_ok
theorem AdsOk.front {a b c : List Ad} (h : AdsOk c) (e : a ++ b = c) : AdsOk a := fun x hx => h x (by rw [← e]; exact List.mem_append_left _ hx)
theorem front_le {a b c : List Ad} {n : Nat} (h : c.length ≤ n) (e : a ++ b = c) : a.length ≤ n := by
  have : a.length + b.length = c.length := by rw [← e, List.length_append]
  omega
theorem seq_at {α : Type} {c : Cd α} {w : World} {v : Value} {xs : List α} (h : Reads c.seq w v xs) {p : α → Prop} (hp : ∀ cs x, c.rd w cs x → p x) : ∀ x ∈ xs, p x := by
  obtain ⟨v', rows, h1, h2, h3, h4⟩ := h
  intro n hn
  obtain ⟨i, hi, rfl⟩ := List.getElem_of_mem hn
  exact hp _ _ (h4 i (by omega) hi)
theorem words_in {w : World} {x : TAd} {t : TbC} (h : TabIs w x t) : WordsIn t := by
  refine ⟨seq_at h.th.q (fun cs y hy => ?_), seq_at h.ac.q (fun cs y hy => ?_)⟩
  · obtain ⟨p, wd, ad, wy, e, hy⟩ := hy
    exact ⟨strs_le hy.wd, strs_le hy.ad⟩
  · obtain ⟨v, e, hy⟩ := hy
    exact seq_at hy.q (fun cs l hl => by
      obtain ⟨v', rows, h1, h2⟩ := hl.1
      exact seq_at (v := v') ⟨v', rows, rfl, h2⟩ (fun cs s hs => by
        obtain ⟨u, e, hu, _⟩ := hs
        exact strs_le hu))
/-- Acts: where they lie. -/
theorem ac_open {w : World} {v : Value} {l : List AcC} (h : Reads Cd.ac.sq w v l) (hn : 0 < l.length) :
    ∃ b off cap, v = .slice (some ⟨b, off, none⟩) l.length cap ∧ l.length ≤ cap ∧ b < w.heap.size ∧ ∀ i (hi : i < l.length), ∃ u, Reads Cd.sl.sq.sq w u l[i].ln ∧ w.cell? ⟨b, off + i * 2, none⟩ = some (.bool l[i].me) ∧ w.cell? ⟨b, off + i * 2 + 1, none⟩ = some u := by
  obtain ⟨b, off, cap, h1, h2, h3, h4⟩ := h.q.open hn
  refine ⟨b, off, cap, h1, h2, h3, fun i hi => ?_⟩
  obtain ⟨row, r1, ⟨u, r2, r4⟩, r3⟩ := h4 i hi
  subst r2
  exact ⟨u, r4, r3 0 (by decide), r3 1 (by decide)⟩
/-- Lines: where they lie. -/
theorem ln_open {w : World} {v : Value} {l : List (List SlC)} (h : Reads Cd.sl.sq.sq w v l) (hn : 0 < l.length) :
    ∃ b off cap, v = .slice (some ⟨b, off, none⟩) l.length cap ∧ l.length ≤ cap ∧ b < w.heap.size ∧ ∀ i (hi : i < l.length), ∃ u, Reads Cd.sl.sq w u l[i] ∧ w.cell? ⟨b, off + i, none⟩ = some u := by
  obtain ⟨b, off, cap, h1, h2, h3, h4⟩ := h.q.open hn
  refine ⟨b, off, cap, h1, h2, h3, fun i hi => ?_⟩
  obtain ⟨row, r1, r2, r3⟩ := h4 i hi
  obtain ⟨u, rows, e, hu⟩ := r2.1
  subst e
  have := r3 0 (by decide)
  have e1 : Cd.sl.sq.k = 1 := rfl
  rw [e1, Nat.mul_one, Nat.add_zero] at this
  exact ⟨u, r2, this⟩
end Go.Proofs.Ytlkdphbgephfiaa
