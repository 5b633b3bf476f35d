/- Contracts of clewref35.with and withAll.; Contract of clewref35.withAll.; The words of tables, with their bits: the plain lists.; The map of words with bits: what it holds; dict.Make's closure that adds words. -/
import Derived.Test.YtjggklfegcejhaaGreatDictDir
import Derived.Test.YtjggklfegcejhaaGreatDictFi
import Derived.Deep.AppendLies
import Derived.Test.YtjggklfegcejhaaGreatFitsD
import Derived.Test.YtjggklfegcejhaaGreatFitsM
import Derived.Maps.Own
import Derived.Maps.OwnSet
import Derived.Maps.Views
namespace Go.Proofs.YtjggklfegcejhaaGreat
open Go.RowKit Go.PlainAid
set_option linter.unusedVariables false
set_option linter.unusedSimpArgs false

theorem Tryz.infoEntry : (Tryz.prog.info? 73).map (fun i => (i.zero, i.size, i.bytes)) = some (some (.agg #[.string ByteArray.empty, .int .i64 0]), 2, 24) := by kernel_rfl
/-- Entries that the call owns. -/
def OwE (w : World) (base : Nat) (v : Value) (L : List EnC) : Prop := w.ownsRow base 73 2 v L.length ((L.map enCells).flatten)
theorem OwE.nil (w : World) (base : Nat) : OwE w base (.slice none 0 0) [] := World.ownsRow_nil _ _ _ _
theorem OwE.snoc {w : World} {base : Nat} {v : Value} {L : List EnC} {x : EnC} (h : w.ownsRow base 73 2 v (L.length + 1) ((L.map enCells).flatten ++ enCells x)) : OwE w base v (L ++ [x]) := by
  unfold OwE; simpa using h
theorem enCells_one (x : EnC) : ∀ u ∈ enCells x, u.oneCell' = true := fun u hu => by simp [enCells] at hu; rcases hu with rfl | rfl <;> rfl
theorem or_val (a b : Nat) (ha : a < 64) (hb : b < 64) : bits BinOp.or IntKind.i64 (a : Int) (b : Int) = ((a ||| b : Nat) : Int) := by
  show IntKind.i64.wrap ((BitVec.ofInt 64 (a : Int) ||| BitVec.ofInt 64 (b : Int)).toNat : Int) = _
  have h := Nat.or_lt_two_pow (n := 6) ha hb
  have e : (BitVec.ofInt 64 (a : Int) ||| BitVec.ofInt 64 (b : Int)).toNat = a ||| b := by
    rw [BitVec.toNat_or, BitVec.ofInt_natCast, BitVec.ofInt_natCast, BitVec.toNat_ofNat, BitVec.toNat_ofNat, Nat.mod_eq_of_lt (by omega), Nat.mod_eq_of_lt (by omega)]
  rw [e]
  exact IntWalk.i64_in _ (by omega)
theorem news_lit2 (w : World) (o : Obj) (cs : List Value) (T : TypeId) : ∀ j u, cs[j]? = some u → ((w.alloc o).alloc (.cells cs.toArray T)).cell? ((⟨w.heap.size + 1, 0, none⟩ : Addr).add j) = some u := by
  have h := news_lit (w.alloc o) cs T
  rwa [World.size_alloc] at h
theorem en_one (a : ByteArray) (b : Int) : ∀ u ∈ [Value.string a, .int .i64 b], u.oneCell' = true := by
  intro u hu
  simp at hu
  rcases hu with rfl | rfl <;> rfl
theorem snocE {w : World} {B : Nat} {v : Value} {L : List EnC} {x : EnC} {a : List UInt8} {n : Int} (h : w.ownsRow B 73 2 v (L.length + 1) ((L.map enCells).flatten ++ [.string ⟨a.toArray⟩, .int .i64 n])) (e1 : x.wd = a) (e2 : x.bt = n) : OwE w B v (L ++ [x]) := by
  subst e1; subst e2; exact OwE.snoc h
end Go.Proofs.YtjggklfegcejhaaGreat
namespace Go.Proofs.YtjggklfegcejhaaGreat
open Go.RowKit Go.PlainAid
set_option linter.unusedVariables false
set_option linter.unusedSimpArgs false

theorem i64_wf {n : Int} (h : -9223372036854775808 ≤ n) (h2 : n ≤ 9223372036854775807) : (Lit.int .i64 n).wf = true := by
  have e1 : IntKind.i64.min = -9223372036854775808 := by decide
  have e2 : IntKind.i64.max = 9223372036854775807 := by decide
  show (decide (IntKind.i64.min ≤ n) && decide (n ≤ IntKind.i64.max)) = true
  rw [e1, e2]; simp [h, h2]
theorem reads_nilE {α : Type} {c : Cd α} (w : World) : Reads c.seq w nilV [] := ⟨_, [], rfl, ⟨SLN.nil _ _ _ _, none, 0, rfl, Nat.le_refl _⟩, rfl, fun i h => by cases h⟩
/-- What an entry's fields are. -/
def EnOk (x : EnC) : Prop := x.wd.length ≤ maxLen ∧ (Lit.int .i64 x.bt).wf = true
theorem OwE.reads {w : World} {B : Nat} {v : Value} {L : List EnC} (h : OwE w B v L) (hm : L.length ≤ maxLen) (hok : ∀ x ∈ L, EnOk x) : Reads Cd.en.seq w v L := by
  have hlen : ∀ r ∈ L.map enCells, r.length = 2 := fun r hr => by obtain ⟨x, _, rfl⟩ := List.mem_map.1 hr; rfl
  have hc := @World.ownsRow.cells
  unfold OwE at h
  rcases h.2 with ⟨e1, e2⟩ | ⟨g, cap, cur, e, hb, hg, hn, hm2, hcs, ht⟩
  · have hL : L = [] := by
      cases L with
      | nil => rfl
      | cons x t => simp [enCells] at e2
    subst hL
    subst e1
    exact reads_nilE w
  · subst e
    have hlt := lt_of_block hg
    refine ⟨_, L.map enCells, rfl, ⟨⟨by simpa using hm, hlen, .inr ⟨g, 0, cap, by simp, hlt, fun i j hi hj => ?_⟩⟩, some ⟨g, 0, none⟩, cap, by simp, by simpa using hn⟩, by simp, fun i h1 h2 => ?_⟩
    · have hi' : i < L.length := by simpa using hi
      have hj' : j < 2 := hj
      have hf := flat_at (k := 2) (L.map enCells) hlen i j (by simpa using hi') hj'
      have hl : j < (enCells L[i]).length := hj'
      have hv : ((L.map enCells)[i])[j]? = some ((enCells L[i])[j]) := by rw [List.getElem_map, List.getElem?_eq_getElem hl]
      rw [hv] at hf
      have h2 := h.cells (g := g) rfl (i * 2 + j) _ hf
      rw [addr0] at h2
      rw [hv]
      show w.cell? ⟨g, 0 + i * 2 + j, none⟩ = _
      rw [Nat.zero_add]; exact h2
    · have := hok L[i] (List.getElem_mem _)
      exact ⟨by rw [List.getElem_map], this.1, this.2⟩
/-- Words with bits as they may be. -/
def AdsOk (ad : List Ad) : Prop := ∀ a ∈ ad, a.1 < 64 ∧ a.2.length ≤ maxLen
theorem AdsOk.app {a b : List Ad} (h : AdsOk a) (g : AdsOk b) : AdsOk (a ++ b) := fun x hx => (List.mem_append.1 hx).elim (h x) (g x)
theorem AdsOk.of {n : Nat} {l : List TxC} (hn : n < 64) (h : ∀ x ∈ l, x.length ≤ maxLen) : AdsOk (l.map fun x => (n, x)) := fun a ha => by
  obtain ⟨x, hx, rfl⟩ := List.mem_map.1 ha
  exact ⟨hn, h x hx⟩
theorem dict_ok {ad : List Ad} {D : List EnC} (h : DictIs ad D) (g : AdsOk ad) : ∀ x ∈ D, EnOk x := fun x hx => by
  obtain ⟨⟨a, h1, h2⟩, h3⟩ := (h.2 x).1 hx
  have h4 := bitsA_lt (fun a ha => (g a ha).1) x.wd
  exact ⟨by rw [← h2]; exact (g a h1).2, by rw [h3]; exact i64_wf (by omega) (by omega)⟩
theorem strs_le {w : World} {v : Value} {l : List TxC} (h : Reads Cd.ss w v l) : ∀ x ∈ l, x.length ≤ maxLen := by
  obtain ⟨v', rows, h1, h2, h3, h4⟩ := h.q
  intro n hn
  obtain ⟨i, hi, rfl⟩ := List.getElem_of_mem hn
  exact (h4 i (by omega) hi).2
end Go.Proofs.YtjggklfegcejhaaGreat
namespace Go.Proofs.YtjggklfegcejhaaGreat
open Go.RowKit Go.PlainAid
set_option linter.unusedVariables false
set_option linter.unusedSimpArgs false

def mkA (n : Nat) (l : List TxC) : List Ad := l.map fun x => (n, x)
def thA (x : ThC) : List Ad := mkA 1 x.wd ++ mkA 2 x.ad
def bitA (i : Nat) : Nat := if i = 0 then 4 else 8
def lineA : List SlC → Nat → List Ad
  | [], _ => []
  | s :: t, i => mkA (bitA i) s.wd ++ lineA t (i + 1)
def acA (a : AcC) : List Ad := (a.ln.map fun l => lineA l 0).flatten
def thsA (l : List ThC) : List Ad := (l.map thA).flatten
def acsA (l : List AcC) : List Ad := (l.map acA).flatten
def baseA : List Ad := mkA 16 dirsW ++ mkA 16 shortW ++ mkA 32 extraW
def adsR (t : TbC) : List Ad := baseA ++ (thsA t.th ++ acsA t.ac)
def adsP (t : TbC) : List Ad := (thsA t.th ++ acsA t.ac) ++ baseA
theorem ads_perm (t : TbC) : (adsR t).Perm (adsP t) := List.perm_append_comm
theorem ths_drop (l : List ThC) (p : Nat) (h : p < l.length) : thsA (l.drop p) = thA l[p] ++ thsA (l.drop (p + 1)) := by
  unfold thsA; rw [List.drop_eq_getElem_cons h]; rfl
theorem acs_drop (l : List AcC) (p : Nat) (h : p < l.length) : acsA (l.drop p) = acA l[p] ++ acsA (l.drop (p + 1)) := by
  unfold acsA; rw [List.drop_eq_getElem_cons h]; rfl
theorem lns_drop (l : List (List SlC)) (p : Nat) (h : p < l.length) : ((l.drop p).map fun l => lineA l 0).flatten = lineA l[p] 0 ++ ((l.drop (p + 1)).map fun l => lineA l 0).flatten := by
  rw [List.drop_eq_getElem_cons h]; rfl
theorem line_drop (l : List SlC) (p : Nat) (h : p < l.length) : lineA (l.drop p) p = mkA (bitA p) l[p].wd ++ lineA (l.drop (p + 1)) (p + 1) := by
  rw [List.drop_eq_getElem_cons h]; rfl
/-- Tables whose words are few. -/
structure TabFew (t : TbC) : Prop where
  th : t.th.length ≤ 128
  wd : ∀ x ∈ t.th, x.wd.length ≤ 8 ∧ x.ad.length ≤ 8
  ac : t.ac.length ≤ 64
  ln : ∀ a ∈ t.ac, a.ln.length ≤ 8
  sl : ∀ a ∈ t.ac, ∀ l ∈ a.ln, l.length ≤ 8
  sw : ∀ a ∈ t.ac, ∀ l ∈ a.ln, ∀ s ∈ l, s.wd.length ≤ 4
theorem flat_leA {α β : Type} (f : α → List β) (k : Nat) : ∀ (l : List α), (∀ x ∈ l, (f x).length ≤ k) → ((l.map f).flatten).length ≤ l.length * k
  | [], _ => by simp
  | x :: t, h => by
    have h1 := flat_leA f k t (fun y hy => h y (List.mem_cons_of_mem _ hy))
    have h2 := h x (List.mem_cons_self ..)
    rw [List.map_cons, List.flatten_cons, List.length_append, List.length_cons, Nat.add_mul]
    omega
theorem line_le (k : Nat) : ∀ (l : List SlC) (i : Nat), (∀ s ∈ l, s.wd.length ≤ k) → (lineA l i).length ≤ l.length * k
  | [], _, _ => by simp [lineA]
  | s :: t, i, h => by
    have h1 := line_le k t (i + 1) (fun y hy => h y (List.mem_cons_of_mem _ hy))
    have h2 := h s (List.mem_cons_self ..)
    rw [lineA, List.length_append, List.length_cons, Nat.add_mul]
    simp [mkA]; omega
theorem ads_le {t : TbC} (h : TabFew t) : (thsA t.th ++ acsA t.ac).length ≤ 20000 := by
  have h1 : (thsA t.th).length ≤ t.th.length * 16 := flat_leA thA 16 t.th (fun x hx => by
    have := h.wd x hx
    unfold thA mkA; simp; omega)
  have h2 : (acsA t.ac).length ≤ t.ac.length * 256 := flat_leA acA 256 t.ac (fun a ha => by
    have h3 : (acA a).length ≤ a.ln.length * 32 := flat_leA (fun l => lineA l 0) 32 a.ln (fun l hl => by
      have h4 := line_le 4 l 0 (h.sw a ha l hl)
      have h5 := h.sl a ha l hl
      omega)
    have h6 := h.ln a ha
    omega)
  have h7 := h.th
  have h8 := h.ac
  rw [List.length_append]; omega
theorem adsR_le {t : TbC} (h : TabFew t) : (adsR t).length ≤ 30000 := by
  have h1 := ads_le h
  have h2 : baseA.length = 32 := by decide +kernel
  unfold adsR
  rw [List.length_append, h2]; omega
theorem adsP_le {t : TbC} (h : TabFew t) : (adsP t).length ≤ 30000 := by rw [← (ads_perm t).length_eq]; exact adsR_le h
/-- The tables' words have lengths that are ones. -/
def WordsIn (t : TbC) : Prop := (∀ x ∈ t.th, (∀ y ∈ x.wd, y.length ≤ maxLen) ∧ ∀ y ∈ x.ad, y.length ≤ maxLen) ∧ ∀ a ∈ t.ac, ∀ l ∈ a.ln, ∀ s ∈ l, ∀ y ∈ s.wd, y.length ≤ maxLen
theorem line_ok : ∀ (l : List SlC) (i : Nat), (∀ s ∈ l, ∀ y ∈ s.wd, y.length ≤ maxLen) → AdsOk (lineA l i)
  | [], _, _ => fun a ha => by cases ha
  | s :: t, i, h => (AdsOk.of (by unfold bitA; split <;> decide) (h s (List.mem_cons_self ..))).app (line_ok t (i + 1) (fun y hy => h y (List.mem_cons_of_mem _ hy)))
theorem ads_ok {t : TbC} (h : WordsIn t) : AdsOk (thsA t.th ++ acsA t.ac) := by
  refine AdsOk.app (fun a ha => ?_) (fun a ha => ?_)
  · obtain ⟨l, hl, ha⟩ := List.mem_flatten.1 ha
    obtain ⟨x, hx, rfl⟩ := List.mem_map.1 hl
    exact ((AdsOk.of (by decide) (h.1 x hx).1).app (AdsOk.of (by decide) (h.1 x hx).2)) a ha
  · obtain ⟨l, hl, ha⟩ := List.mem_flatten.1 ha
    obtain ⟨x, hx, rfl⟩ := List.mem_map.1 hl
    obtain ⟨m, hm, ha⟩ := List.mem_flatten.1 ha
    obtain ⟨y, hy, rfl⟩ := List.mem_map.1 hm
    exact line_ok y 0 (h.2 x hx y hy) a ha
theorem base_ok : AdsOk baseA := by
  have h : (baseA.all fun a => decide (a.1 < 64) && decide (a.2.length ≤ 1000)) = true := by decide +kernel
  intro a ha
  have := List.all_eq_true.1 h a ha
  simp only [Bool.and_eq_true, decide_eq_true_eq] at this
  exact ⟨this.1, by unfold maxLen; omega⟩
theorem adsR_ok {t : TbC} (h : WordsIn t) : AdsOk (adsR t) := base_ok.app (ads_ok h)
theorem adsP_ok {t : TbC} (h : WordsIn t) : AdsOk (adsP t) := (ads_ok h).app base_ok
theorem AdsOk.front {a b c : List Ad} (h : AdsOk c) (e : a ++ b = c) : AdsOk a := fun x hx => h x (by rw [← e]; exact List.mem_append_left _ hx)
theorem front_le {a b c : List Ad} {n : Nat} (h : c.length ≤ n) (e : a ++ b = c) : a.length ≤ n := by
  have : a.length + b.length = c.length := by rw [← e, List.length_append]
  omega
theorem seq_at {α : Type} {c : Cd α} {w : World} {v : Value} {xs : List α} (h : Reads c.seq w v xs) {p : α → Prop} (hp : ∀ cs x, c.rd w cs x → p x) : ∀ x ∈ xs, p x := by
  obtain ⟨v', rows, h1, h2, h3, h4⟩ := h
  intro n hn
  obtain ⟨i, hi, rfl⟩ := List.getElem_of_mem hn
  exact hp _ _ (h4 i (by omega) hi)
theorem words_in {w : World} {x : TAd} {t : TbC} (h : TabIs w x t) : WordsIn t := by
  refine ⟨seq_at h.th.q (fun cs y hy => ?_), seq_at h.ac.q (fun cs y hy => ?_)⟩
  · obtain ⟨p, wd, ad, wy, e, hy⟩ := hy
    exact ⟨strs_le hy.wd, strs_le hy.ad⟩
  · obtain ⟨v, e, hy⟩ := hy
    exact seq_at hy.q (fun cs l hl => by
      obtain ⟨v', rows, h1, h2⟩ := hl.1
      exact seq_at (v := v') ⟨v', rows, rfl, h2⟩ (fun cs s hs => by
        obtain ⟨u, e, hu, _⟩ := hs
        exact strs_le hu))
end Go.Proofs.YtjggklfegcejhaaGreat
namespace Go.Proofs.YtjggklfegcejhaaGreat
open Go.RowKit Go.PlainAid Go.Maps
set_option linter.unusedVariables false
set_option linter.unusedSimpArgs false

theorem strKeyed : Keyed Tryz.prog 9 := string_keyed Tryz.underlying9
theorem zeroI (w : World) : (zeroValue 3).run Tryz.prog w = .ok (.int .i64 0) w := by kernel_rfl
theorem strKeyM (l : List UInt8) (h : l.length ≤ maxLen) : keyOf Tryz.prog 9 (.string ⟨l.toArray⟩) = some (.string l) := by
  rw [keyOf_string Tryz.underlying9]
  unfold mapKey
  have e : (⟨l.toArray⟩ : ByteArray).size = l.length := by show l.toArray.size = _; simp
  simp [Tryz.underlying9, e, h]
/-- D holds these words with their bits. -/
def MapOf (ad : List Ad) (D : DataW Unit) : Prop := IsMap D ∧ (∀ s : List UInt8, D.atKey (.string s) (.lit (.int .i64 0)) = .lit (.int .i64 (bitsA ad s : Int))) ∧ ∀ s : List UInt8, Maps.has D (.string s) = decide (∃ a ∈ ad, a.2 = s)
/-- Block b is a map that holds these words with their bits. -/
def BitIs (w : World) (b : Nat) (ad : List Ad) : Prop := ∃ D : DataW Unit, w.ownsMap Tryz.prog 9 (plainElem Tryz.prog 3) b ad.length D ∧ MapOf ad D
theorem BitIs.new (w : World) : BitIs (w.alloc (.map #[] 0)) w.heap.size [] := ⟨.map [], World.ownsMap_made _ _ _ _, ⟨[], rfl⟩, fun s => rfl, fun s => by simp [Maps.has]⟩
theorem BitIs.kept {w w' : World} {b : Nat} {ad : List Ad} {row : Option Nat} (h : BitIs w b ad) (hg : w.grownBy w' row) (hne : row ≠ some b) : BitIs w' b ad := by
  obtain ⟨D, h1, h2⟩ := h
  exact ⟨D, h1.kept hg (Ne.symm hne), h2⟩
theorem MapOf.put {D : DataW Unit} {ad : List Ad} (h : MapOf ad D) (n : Nat) (x : List UInt8) : MapOf (ad ++ [(n, x)]) (D.put (.string x) (.lit (.int .i64 ((bitsA ad x ||| n : Nat) : Int)))) := by
  obtain ⟨hm, h1, h2⟩ := h
  refine ⟨by obtain ⟨es, rfl⟩ := hm; exact ⟨_, rfl⟩, fun s => ?_, fun s => ?_⟩
  · rw [bitsA_snoc]
    by_cases e : x = s
    · subst e
      rw [atKey_put_same hm (show WideAt.IsKeyLit (.string x) from trivial), if_pos rfl]
    · rw [atKey_put_other (fun h => e (by injection h with h; exact h.symm)), h1 s, if_neg e]
  · by_cases e : x = s
    · subst e
      rw [has_put_same hm (show WideAt.IsKeyLit (.string x) from trivial)]
      symm
      rw [decide_eq_true_eq]
      exact ⟨(n, x), List.mem_append_right _ (List.mem_singleton.2 rfl), rfl⟩
    · rw [has_put_other (fun h => e (by injection h with h; exact h.symm)), h2 s]
      rw [Bool.eq_iff_iff, decide_eq_true_eq, decide_eq_true_eq]
      constructor
      · rintro ⟨a, ha, h3⟩; exact ⟨a, List.mem_append_left _ ha, h3⟩
      · rintro ⟨a, ha, h3⟩
        rcases List.mem_append.1 ha with ha | ha
        · exact ⟨a, ha, h3⟩
        · rw [List.mem_singleton.1 ha] at h3; exact absurd h3 e
/-- What Make's variable holds: the map's block M, the variable's block R. -/
structure AdS (w : World) (M R : Nat) (ad : List Ad) : Prop where
  ne : M ≠ R
  mp : BitIs w M ad
  rf : BK w R [.map (some M)] 60
theorem AdS.kept {w w' : World} {M R : Nat} {ad : List Ad} {row : Option Nat} (h : AdS w M R ad) (hg : w.grownBy w' row) (h1 : row ≠ some M) (h2 : row ≠ some R) : AdS w' M R ad :=
  ⟨h.ne, h.mp.kept hg h1, h.rf.kept hg (fun j hj e => h2 (by rw [hj, e]))⟩
theorem AdS.alloc {w : World} {M R : Nat} {ad : List Ad} (h : AdS w M R ad) (o : Obj) : AdS (w.alloc o) M R ad := h.kept (gr_alloc w o none) (by simp) (by simp)
theorem AdS.drew {w : World} {M R : Nat} {ad : List Ad} (h : AdS w M R ad) : AdS w.drew M R ad := h.kept (gr_drewN w none 1) (by simp) (by simp)
theorem AdS.mlt {w : World} {M R : Nat} {ad : List Ad} (h : AdS w M R ad) : M < w.heap.size := by
  obtain ⟨D, h1, _⟩ := h.mp
  exact h1.lt
/-- A block with cells is not the map's. -/
theorem AdS.cellne {w : World} {M R : Nat} {ad : List Ad} (h : AdS w M R ad) {b o : Nat} {v : Value} (hc : w.cell? ⟨b, o, none⟩ = some v) : b ≠ M := by
  obtain ⟨D, h1, _⟩ := h.mp
  obtain ⟨es, clock, hb, _⟩ := h1
  intro e
  subst e
  simp [World.cell?, hb] at hc
theorem AdS.put {w w' : World} {M R : Nat} {ad : List Ad} {n : Nat} {x : List UInt8} {D : DataW Unit} (h : AdS w M R ad) (hm : MapOf ad D) (hg : w.grownBy w' (some M)) (ho : w'.ownsMap Tryz.prog 9 (plainElem Tryz.prog 3) M (ad.length + 1) (D.put (.string x) (.lit (.int .i64 ((bitsA ad x ||| n : Nat) : Int))))) : AdS w' M R (ad ++ [(n, x)]) :=
  ⟨h.ne, ⟨_, by simpa using ho, hm.put n x⟩, h.rf.kept hg (fun j hj e => h.ne (by have := Option.some.inj hj; omega))⟩
theorem cell_grown {w w' : World} {M b o : Nat} {v : Value} (hg : w.grownBy w' (some M)) (hb : b < w.heap.size) (hne : b ≠ M) (h : w.cell? ⟨b, o, none⟩ = some v) : w'.cell? ⟨b, o, none⟩ = some v := by
  have := hg.block b hb (fun e => hne (Option.some.inj e))
  rw [World.cell?_of_block (a := ⟨b, o, none⟩) this]; exact h
set_option maxRecDepth 100000 in
set_option maxHeartbeats 4000000 in
theorem dictAdd (w : World) (M R : Nat) (ad : List Ad) (b : Nat) (vw : Value) (ws : List TxC) (hS : AdS w M R ad) (hw : Reads Cd.ss w vw ws) (hok : AdsOk ad) (hb : b < 64) (hl : ad.length + ws.length ≤ 100000) :
    Calls Tryz.prog 38 #[.int .i64 b, vw, .pointer (some ⟨R, 0, none⟩)] w fun e w' => e = .returned (.tuple #[]) ∧ AdS w' M R (ad ++ mkA b ws) ∧ w.grownBy w' (some M) := by
  have HS := Lib.hid hS
  have HW := Lib.hid hw
  have HL := Lib.hid (strs_le hw)
  have HOK := Lib.hid hok
  obtain ⟨a1, c1, hv1, hc1, hm1⟩ := hw.q.len
  subst hv1
  unfold maxLen at hm1
  clear hS hw hok
  go_enter Tryz.func38, Tryz.ntmps38
  go_wp2
  go_loopw [9] (fun i wr => ∃ (p : Nat), i = .int .i64 p ∧ p ≤ ws.length ∧ Hid (AdS wr M R (ad ++ mkA b (ws.take p))) ∧ Hid (w.grownBy wr (some M))) (fun i _ => ws.length - (intOf i).toNat)
  case atStart => exact ⟨0, rfl, Nat.zero_le _, Lib.hid (by simpa [mkA] using HS.out), Lib.hid (gr_refl _ _)⟩
  case round =>
    obtain ⟨p, rfl, hpl, HA, HG⟩ := hrel
    by_cases hlt : p < ws.length
    · obtain ⟨g, off, cap, hv, hcap, hblt, hcell⟩ := str_open HW.out (by omega)
      have hac : a1 = some ⟨g, off, none⟩ := by simp at hv; exact hv.1
      subst hac
      obtain ⟨hz, f0⟩ := hcell p hlt
      have e0 := cell_grown HG.out hblt (HS.out.cellne f0) f0
      have hads : AdsOk (ad ++ mkA b (ws.take p)) := HOK.out.app (AdsOk.of hb (fun x hx => HL.out x (List.mem_of_mem_take hx)))
      have HE : Hid (ad ++ mkA b (ws.take (p + 1)) = (ad ++ mkA b (ws.take p)) ++ [(b, ws[p])]) := Lib.hid (by
        unfold mkA
        rw [List.take_succ_eq_append_getElem hlt, List.map_append, ← List.append_assoc]; rfl)
      have hle : (ad ++ mkA b (ws.take p)).length ≤ 100000 := by simp [mkA]; omega
      generalize ws[p] = x at e0 f0 hz HE
      have hm64 := bitsA_lt (fun a ha => (hads a ha).1) x
      have kr := HA.out.rf.cell 0
      simp only [List.getElem?_cons_zero] at kr
      obtain ⟨D, hD, hMO⟩ := HA.out.mp
      obtain ⟨cc, hrunL, hat, hwc⟩ := hD.lookup_int strKeyed Tryz.underlying60 Tryz.underlying3 (zeroI wr) (strKeyM x hz)
      have hcc : cc = (bitsA (ad ++ mkA b (ws.take p)) x : Int) := by
        have h1 := hMO.2.1 x
        rw [hat] at h1
        simpa using h1
      subst hcc
      have hor := or_val (bitsA (ad ++ mkA b (ws.take p)) x) b hm64 hb
      obtain ⟨w2, hrunU, hown2, hgrow2⟩ := hD.update strKeyed Tryz.underlying60 (by unfold maxLen; omega) (strKeyM x hz) (plainElem_int Tryz.underlying3 (i64_wf (n := ((bitsA (ad ++ mkA b (ws.take p)) x ||| b : Nat) : Int)) (by omega) (by have := Nat.or_lt_two_pow (n := 6) hm64 hb; omega)))
      have HA2 : Hid (AdS w2 M R (ad ++ mkA b (ws.take (p + 1)))) := Lib.hid (by rw [HE.out]; exact HA.out.put hMO hgrow2 hown2)
      have HG2 := Lib.hid (gr_trans HG.out hgrow2)
      generalize bitsA (ad ++ mkA b (ws.take p)) x = m at hrunL hor hrunU
      have hk0 : (0 : Int) ≤ (p : Int) := by omega
      have hk1 : (p : Int) < (ws.length : Int) := by omega
      clear hcell hv hads hle hD hMO hat hwc hown2 hgrow2 f0 hm64 HE
      go_wp2
      go_roundw
      case rel => exact ⟨p + 1, by go_num, by omega, HA2, HG2⟩
      case measure => simp [intOf]; omega
    · have hp : ws.take p = ws := List.take_of_length_le (by omega)
      rw [hp] at HA
      go_wp2
      go_end0
      exact ⟨rfl, HA.out, HG.out⟩
end Go.Proofs.YtjggklfegcejhaaGreat
