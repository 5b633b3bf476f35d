/- Contract of names.Make. -/
import Derived.Test.YtdommneciojiaaaNamesSort
import Derived.Carry
namespace Go.Proofs.Ytdommneciojiaaa
open Go.RowKit Go.PlainAid Go.Maps
set_option linter.unusedVariables false
set_option linter.unusedSimpArgs false

/-- May it be a name? -/
def okN (n : List UInt8) : Bool := isNameL n && !keyL n
/-- A part of a source: what its names are, and the slice that holds them. -/
structure RW where
  kd : Int
  part : Int
  most : Int
  from_ : Int
  v : Value
  l : List (List UInt8)
def RW.cells (x : RW) : List Value := rowC x.kd x.part x.most x.from_ x.v
def RW.ents (x : RW) : List EN := entsF x.kd x.part x.most x.from_ x.l 0
def entsR (L : List RW) : List EN := (L.map RW.ents).flatten
theorem ents_drop (L : List RW) (q : Nat) (h : q < L.length) : entsR (L.drop q) = L[q].ents ++ entsR (L.drop (q + 1)) := by
  unfold entsR
  rw [List.drop_eq_getElem_cons h, List.map_cons, List.flatten_cons]
theorem entsF_drop (kd part most from_ : Int) (l : List (List UInt8)) (p : Nat) (h : p < l.length) : entsF kd part most from_ (l.drop p) p = ⟨l[p], kd, part, p, from_ + p, most⟩ :: entsF kd part most from_ (l.drop (p + 1)) (p + 1) := by
  rw [List.drop_eq_getElem_cons h, entsF]
/-- A row's names lie where Make writes not. -/
def RowOk (W : World) (B : Nat) (v1 : Value) (x : RW) : Prop := ∃ a c, x.v = .slice a x.l.length c ∧ (∀ n ∈ x.l, n.length ≤ maxLen) ∧ x.l.length ≤ 400 ∧ 0 ≤ x.from_ ∧ x.from_ ≤ 4 ∧
  ∀ i (h : i < x.l.length), ∃ b off, a = some ⟨b, off, none⟩ ∧ b < W.heap.size ∧ b ≠ B + 2 ∧ b ≠ B + 4 ∧ v1.ownBlock ≠ some b ∧ W.cell? ⟨b, off + i, none⟩ = some (.string ⟨x.l[i].toArray⟩)
theorem cell_block {w w' : World} {b : Nat} (h : w'.heap[b]? = w.heap[b]?) (o : Nat) : w'.cell? ⟨b, o, none⟩ = w.cell? ⟨b, o, none⟩ := World.cell?_of_block (a := ⟨b, o, none⟩) h
theorem Stays.refl (w : World) (B : Nat) (v : Value) : Stays w w B v v := ⟨fun _ _ _ _ _ => rfl, fun _ h => .inl h, Nat.le_refl _⟩
theorem Stays.trans {a b c : World} {B : Nat} {v v' v'' : Value} (h : Stays a b B v v') (g : Stays b c B v' v'') : Stays a c B v v'' := by
  refine ⟨fun k hk h2 h4 hv => ?_, fun k hk => ?_, Nat.le_trans h.size g.size⟩
  · rw [g.block k (Nat.lt_of_lt_of_le hk h.size) h2 h4 (fun e => by rcases h.own k e with h5 | h5
                                                                    · exact hv h5
                                                                    · omega)]
    exact h.block k hk h2 h4 hv
  · rcases g.own k hk with h5 | h5
    · exact h.own k h5
    · exact .inr (Nat.le_trans h.size h5)
theorem Stays.below {a b c : World} {B : Nat} {v v' : Value} (h : Stays a b B v v') (g : Below b.heap.size b c) : Stays a c B v v' :=
  ⟨fun k hk h2 h4 hv => (g.block k (Nat.lt_of_lt_of_le hk h.size)).trans (h.block k hk h2 h4 hv), h.own, Nat.le_trans h.size g.size⟩
theorem RowOk.stays {W wr : World} {B : Nat} {v1 v : Value} {x : RW} (h : RowOk W B v1 x) (g : Stays W wr B v1 v) : ∃ a c, x.v = .slice a x.l.length c ∧ (∀ n ∈ x.l, n.length ≤ maxLen) ∧ x.l.length ≤ 400 ∧ 0 ≤ x.from_ ∧ x.from_ ≤ 4 ∧
    ∀ i (h : i < x.l.length), ∃ b off, a = some ⟨b, off, none⟩ ∧ b < wr.heap.size ∧ wr.cell? ⟨b, off + i, none⟩ = some (.string ⟨x.l[i].toArray⟩) := by
  obtain ⟨a, c, h1, h2, h3, h4, h5, h6⟩ := h
  refine ⟨a, c, h1, h2, h3, h4, h5, fun i hi => ?_⟩
  obtain ⟨b, off, e, r1, r2, r3, r4, r5⟩ := h6 i hi
  exact ⟨b, off, e, Nat.lt_of_lt_of_le r1 g.size, (cell_block (g.block b r1 r2 r3 r4) _).trans r5⟩
/-- A row whose names the call owns. -/
theorem RowOk.own {W : World} {B base : Nat} {v1 : Value} {x : RW} (h : OwS W base x.v x.l) (hB : B + 4 < base) (hv : ∀ k, v1.ownBlock = some k → k < base) (hl : x.l.length ≤ 400) (hm : ∀ n ∈ x.l, n.length ≤ maxLen) (h0 : 0 ≤ x.from_) (h4 : x.from_ ≤ 4) : RowOk W B v1 x := by
  have hs := h.sl (by unfold maxLen; omega)
  obtain ⟨a, c, e⟩ := ow_shape h
  refine ⟨a, c, e, hm, hl, h0, h4, fun i hi => ?_⟩
  rcases hs.2 with ⟨h0, _⟩ | ⟨b, off, cap, e2, hlt, hc⟩
  · rw [List.map_eq_nil_iff] at h0; rw [h0] at hi; simp at hi
  · rw [e] at e2
    have ea : a = some ⟨b, off, none⟩ := by simp at e2; exact e2.1
    have hb : base ≤ b := ow_lo h b (by rw [e, ea]; rfl)
    refine ⟨b, off, ea, hlt, by omega, by omega, fun e5 => by have := hv b e5; omega, ?_⟩
    have := hc i (by simpa using hi)
    rw [this, List.getElem_map]; rfl
/-- A row whose names came in. -/
theorem RowOk.read {W w : World} {B : Nat} {v1 : Value} {x : RW} (h : Reads Cd.str.seq w x.v x.l) (hW : Below w.heap.size w W) (hB : w.heap.size ≤ B) (hv : ∀ k, v1.ownBlock = some k → w.heap.size ≤ k) (hl : x.l.length ≤ 400) (h0 : 0 ≤ x.from_) (h4 : x.from_ ≤ 4) : RowOk W B v1 x := by
  obtain ⟨a, c, e, _, _⟩ := h.len
  refine ⟨a, c, e, str_all h, hl, h0, h4, fun i hi => ?_⟩
  obtain ⟨b, off, cap, e2, hcap, hlt, hc⟩ := str_open h (by omega)
  rw [e] at e2
  have ea : a = some ⟨b, off, none⟩ := by simp at e2; exact e2.1
  exact ⟨b, off, ea, Nat.lt_of_lt_of_le hlt hW.size, by omega, by omega, fun e5 => by have := hv b e5; omega, (hW.cell (p := ⟨b, off + i, none⟩) hlt).trans (hc i hi).2⟩
def fourS : List (List UInt8) := fourN.map (·.nm)
def zeroF : List Value := [.int .i64 0, .int .i64 0, .int .i64 0, .string ⟨#[]⟩]
def faultV (e part at_ : Int) (n : List UInt8) : Value := .agg #[.int .i64 e, .int .i64 part, .int .i64 at_, .string ⟨n.toArray⟩]
/-- Make's variables, and what lies beside them. -/
theorem MkS.new (w : World) (src : List Value) : MkS ((((( w.alloc (.cells src.toArray 39)).alloc (.cells zeroF.toArray 30)).alloc (.map #[] 0)).alloc (.cells #[.map (some (w.heap.size + 2))] 59)).alloc (.cells #[nilV] 27)) w.heap.size src nilV [] := by
  have e1 : (w.alloc (.cells src.toArray 39)).heap.size = w.heap.size + 1 := by simp
  have e2 : ((w.alloc (.cells src.toArray 39)).alloc (.cells zeroF.toArray 30)).heap.size = w.heap.size + 2 := by simp
  have e3 : (((w.alloc (.cells src.toArray 39)).alloc (.cells zeroF.toArray 30)).alloc (.map #[] 0)).heap.size = w.heap.size + 3 := by simp
  have e4 : ((((w.alloc (.cells src.toArray 39)).alloc (.cells zeroF.toArray 30)).alloc (.map #[] 0)).alloc (.cells #[.map (some (w.heap.size + 2))] 59)).heap.size = w.heap.size + 4 := by simp
  refine ⟨by simp, (((BK.new w _ _).alloc _).alloc _).alloc _ |>.alloc _, ?_, ?_, ?_, ?_, OwN.nil _ _⟩
  · have := BK.new (w.alloc (.cells src.toArray 39)) zeroF 30
    rw [e1] at this
    exact ((this.alloc _).alloc _).alloc _
  · have := MetIs.new ((w.alloc (.cells src.toArray 39)).alloc (.cells zeroF.toArray 30))
    rw [e2] at this
    exact (this.kept (gr_alloc _ _ none) (by simp)).kept (gr_alloc _ _ none) (by simp)
  · have := BK.new (((w.alloc (.cells src.toArray 39)).alloc (.cells zeroF.toArray 30)).alloc (.map #[] 0)) [.map (some (w.heap.size + 2))] 59
    rw [e3] at this
    exact this.alloc _
  · have := BK.new ((((w.alloc (.cells src.toArray 39)).alloc (.cells zeroF.toArray 30)).alloc (.map #[] 0)).alloc (.cells #[.map (some (w.heap.size + 2))] 59)) [nilV] 27
    rw [e4] at this
    exact this
theorem Stays.bk {w w' : World} {B k : Nat} {v v' : Value} {cs : List Value} {T : TypeId} (h : Stays w w' B v v') (hb : BK w k cs T) (h2 : k ≠ B + 2) (h4 : k ≠ B + 4) (hv : v.ownBlock ≠ some k) : BK w' k cs T := (h.block k hb.lt h2 h4 hv).trans hb
theorem four_step (p : Nat) (h : p < 4) : ∃ n : List UInt8, n.length ≤ maxLen ∧ (fourS.map strV)[p]? = some (.string ⟨n.toArray⟩) ∧ fourN.take (p + 1) = fourN.take p ++ [⟨n, 1, p⟩] := by
  have : p = 0 ∨ p = 1 ∨ p = 2 ∨ p = 3 := by omega
  rcases this with rfl | rfl | rfl | rfl
  · exact ⟨[108, 105, 116], by decide, rfl, rfl⟩
  · exact ⟨[111, 112, 101, 110], by decide, rfl, rfl⟩
  · exact ⟨[98, 111, 120], by decide, rfl, rfl⟩
  · exact ⟨[104, 105, 100, 100, 101, 110], by decide, rfl, rfl⟩
theorem BK_at {w : World} {n : Nat} (h : w.heap.size = n) (cs : List Value) (T : TypeId) : BK (w.alloc (.cells cs.toArray T)) n cs T := by subst h; exact BK.new w cs T
theorem seq_all {c : Cd (List UInt8)} (hc : ∀ w cs x, c.rd w cs x → x.length ≤ maxLen) {w : World} {v : Value} {l : List (List UInt8)} (h : Reads c.seq w v l) : ∀ n ∈ l, n.length ≤ maxLen := by
  obtain ⟨v', rows, h1, h2, h3, h4⟩ := h
  intro n hn
  obtain ⟨i, hi, rfl⟩ := List.getElem_of_mem hn
  exact hc _ _ _ (h4 i (by omega) hi)
/-- The seven parts. -/
def rowsR (f p g o v fn dm : Value) (d : DC) : List RW := [⟨1, 2, 12, 4, f, d.fl⟩, ⟨2, 3, 16, 0, p, d.pr⟩, ⟨3, 4, 64, 0, g, d.gl⟩, ⟨4, 5, 126, 2, o, d.ob⟩, ⟨5, 6, 64, 0, v, d.ve⟩, ⟨6, 8, 64, 0, fn, d.fu⟩, ⟨7, 9, 16, 0, dm, d.da⟩]
theorem rowsC_flat (f p g o v fn dm : Value) (d : DC) : rowsC f p g o v fn dm = ((rowsR f p g o v fn dm d).map RW.cells).flatten := rfl
theorem rows_ents (f p g o v fn dm : Value) (d : DC) : entsR (rowsR f p g o v fn dm d) = entsD d := by simp [entsR, rowsR, RW.ents, entsD]
theorem rows_cell {w : World} {K : Nat} {T : TypeId} {L : List RW} (h : BK w K (L.map RW.cells).flatten T) (q j : Nat) (hq : q < L.length) (hj : j < 5) : w.cell? ⟨K, q * 5 + j, none⟩ = L[q].cells[j]? := by
  rw [h.cell, flat_at (k := 5) (L.map RW.cells) (fun r hr => by obtain ⟨x, _, rfl⟩ := List.mem_map.1 hr; rfl) q j (by simpa using hq) hj]
  simp
def faultR : (Int × EN) ⊕ List NM → Value
  | .inl (e, n) => faultV e n.part n.at_ n.nm
  | .inr _ => .agg zeroF.toArray
def namesR : (Int × EN) ⊕ List NM → List NM
  | .inl _ => []
  | .inr l => sortN l
theorem reads_nil {α : Type} {c : Cd α} (w : World) : Reads c.seq w nilV [] := ⟨_, [], rfl, ⟨SLN.nil _ _ _ _, none, 0, rfl, Nat.le_refl _⟩, rfl, fun i h => by cases h⟩
theorem results_tmp_cell {fn : Func} {p u : Tmp} {ty : TypeId} (h : fn.results = #[.tmp u, .cell p ty]) (tmps : Array Value) (P : Program) (w : World) :
    (results fn tmps).run P w = (((asAddr (tmps.getD p undef)).run P w).andThen fun a w₁ => (loadVar ty a).run P w₁).andThen fun x w₂ => .ok (.tuple #[tmps.getD u undef, x]) w₂ := by
  simp only [results, h]
  simp [Sem.run_bind, Result.andThen]
  generalize Sem.run P (asAddr _) w = r
  cases r <;> rfl
theorem run_len (ok : List UInt8 → Bool) : ∀ (es : List EN) (out l : List NM), runN ok es out = .inr l → l.length = out.length + es.length
  | [], out, l, h => by simp [runN] at h; rw [h]; rfl
  | e :: es, out, l, h => by
    rw [runN] at h
    by_cases he : errN ok (out.map (·.nm)) e ≠ 0
    · rw [if_pos he] at h; cases h
    · rw [if_neg he] at h
      rw [run_len ok es _ l h]; simp; omega
theorem run_all (ok : List UInt8 → Bool) (q : NM → Prop) : ∀ (es : List EN) (out l : List NM), (∀ x ∈ out, q x) → (∀ e ∈ es, q ⟨e.nm, e.kd, e.num⟩) → runN ok es out = .inr l → ∀ x ∈ l, q x
  | [], out, l, h1, h2, h => by simp [runN] at h; rw [← h]; exact h1
  | e :: es, out, l, h1, h2, h => by
    rw [runN] at h
    by_cases he : errN ok (out.map (·.nm)) e ≠ 0
    · rw [if_pos he] at h; cases h
    · rw [if_neg he] at h
      refine run_all ok q es _ l (fun x hx => ?_) (fun x hx => h2 x (List.mem_cons_of_mem _ hx)) h
      rcases List.mem_append.1 hx with h3 | h3
      · exact h1 x h3
      · rw [List.mem_singleton.1 h3]; exact h2 e (List.mem_cons_self ..)
theorem entsF_ok (kd part most from_ : Int) (hk : (Lit.int .i64 kd).wf = true) (h0 : 0 ≤ from_) (h4 : from_ ≤ 4) : ∀ (l : List (List UInt8)) (i : Nat), (∀ n ∈ l, n.length ≤ maxLen) → i + l.length ≤ 1000000 → ∀ e ∈ entsF kd part most from_ l i, NmOk ⟨e.nm, e.kd, e.num⟩
  | [], _, _, _, e, he => by simp [entsF] at he
  | x :: t, i, h, hl, e, he => by
    rw [entsF] at he
    rcases List.mem_cons.1 he with rfl | he
    · exact ⟨h x (List.mem_cons_self ..), hk, WalkArith.wf_i64 (by simp at hl; simp; omega)⟩
    · exact entsF_ok kd part most from_ hk h0 h4 t (i + 1) (fun n hn => h n (List.mem_cons_of_mem _ hn)) (by simp at hl; omega) e he
theorem SrcIs.ents_ok {w : World} {f p g o v fn dm : Value} {d : DC} (hs : SrcIs w f p g o v fn dm d) (hd : d.few 400) : ∀ e ∈ entsD d, NmOk ⟨e.nm, e.kd, e.num⟩ := by
  intro e he
  simp only [entsD, List.mem_append] at he
  have h1 := hd.fl
  have h2 := hd.pr
  have h3 := hd.gl
  have h4 := hd.ob
  have h5 := hd.ve
  have h6 := hd.fu
  have h7 := hd.da
  rcases he with he | he | he | he | he | he | he
  · exact entsF_ok _ _ _ _ (by decide) (by decide) (by decide) _ 0 (str_all hs.fl) (by omega) e he
  · exact entsF_ok _ _ _ _ (by decide) (by decide) (by decide) _ 0 (seq_all (c := Cd.pair) (fun _ _ _ h => h.2) hs.pr) (by omega) e he
  · exact entsF_ok _ _ _ _ (by decide) (by decide) (by decide) _ 0 (seq_all (c := Cd.pair) (fun _ _ _ h => h.2) hs.gl) (by omega) e he
  · exact entsF_ok _ _ _ _ (by decide) (by decide) (by decide) _ 0 (seq_all (c := Cd.obj) (fun _ _ _ h => h.2) hs.ob) (by omega) e he
  · exact entsF_ok _ _ _ _ (by decide) (by decide) (by decide) _ 0 (seq_all (c := Cd.verb) (fun _ _ _ h => h.2) hs.ve) (by omega) e he
  · exact entsF_ok _ _ _ _ (by decide) (by decide) (by decide) _ 0 (seq_all (c := Cd.func) (fun _ _ _ h => h.2) hs.fu) (by omega) e he
  · exact entsF_ok _ _ _ _ (by decide) (by decide) (by decide) _ 0 (seq_all (c := Cd.func) (fun _ _ _ h => h.2) hs.da) (by omega) e he
theorem four_ok : ∀ x ∈ fourN, NmOk x := by
  intro x hx
  simp only [fourN, List.mem_cons, List.not_mem_nil, or_false] at hx
  rcases hx with rfl | rfl | rfl | rfl <;> exact ⟨by decide, by decide, by decide⟩
theorem fault_set {w : World} {k : Nat} {T : TypeId} {x0 x1 x2 x3 : Value} (h : BK w k [x0, x1, x2, x3] T) (a b c d : Value) : BK ((((w.setCell ⟨k, 0, none⟩ a).setCell ⟨k, 1, none⟩ b).setCell ⟨k, 2, none⟩ c).setCell ⟨k, 3, none⟩ d).drew k [a, b, c, d] T :=
  (((h.set 0 a).set 1 b).set 2 c).set 3 d
set_option maxRecDepth 100000 in
set_option maxHeartbeats 8000000 in
theorem namesMake (f p g o v fn dm : Value) (d : DC) (m : Int) (w : World) (hs : SrcIs w f p g o v fn dm d) (hd : d.few 400) (hm : w.cell? ⟨0, 0, none⟩ = some (.int .i64 m)) :
    Calls Try.prog 10 #[srcV f p g o v fn dm] w fun e w' => ∃ v', e = .returned (.tuple #[v', faultR (runN okN (entsD d) fourN)]) ∧ Below w.heap.size w w' ∧ Reads Cd.nm.seq w' v' (namesR (runN okN (entsD d) fourN)) := by
  have HS := Lib.hid hs
  have HMX := Lib.hid hm
  obtain ⟨R, hR⟩ : ∃ R, runN okN (entsD d) fourN = R := ⟨_, rfl⟩
  have HR0 : Hid (runN okN (entsD d) fourN = R) := Lib.hid hR
  rw [hR]
  clear hR hm
  obtain ⟨a1, c1, h1, g1, m1⟩ := hs.fl.len
  obtain ⟨a2, c2, h2, g2, m2⟩ := hs.pr.len
  obtain ⟨a3, c3, h3, g3, m3⟩ := hs.gl.len
  obtain ⟨a4, c4, h4, g4, m4⟩ := hs.ob.len
  obtain ⟨a5, c5, h5, g5, m5⟩ := hs.ve.len
  obtain ⟨a6, c6, h6, g6, m6⟩ := hs.fu.len
  obtain ⟨a7, c7, h7, g7, m7⟩ := hs.da.len
  subst h1 h2 h3 h4 h5 h6 h7
  have HD := Lib.hid hd
  clear hs hd
  unfold srcV
  have hmm := @run_makeMap Try.prog
  go_enter Try.func10, Try.ntmps10
  go_wp2
  simp only [Nat.add_assoc, Nat.reduceAdd]
  obtain ⟨SRC, hSRC⟩ : ∃ SRC : List Value, SRC = [.string ⟨#[]⟩, .string ⟨#[]⟩, .string ⟨#[]⟩, .int .i64 0, .int .i64 0, .slice a1 d.fl.length c1, .slice a2 d.pr.length c2, .slice a3 d.gl.length c3, .slice a4 d.ob.length c4, .slice a5 d.ve.length c5, nilV, .slice a6 d.fu.length c6, .slice a7 d.da.length c7] := ⟨_, rfl⟩
  have HM0 := (MkS.new w SRC).below (bl_a (Below.refl _ _) (.cells (fourS.map strV).toArray 9))
  have HF0 := BK_at (n := w.heap.size + 5) (w := ((((w.alloc (.cells SRC.toArray 39)).alloc (.cells zeroF.toArray 30)).alloc (.map #[] 0)).alloc (.cells #[.map (some (w.heap.size + 2))] 59)).alloc (.cells #[nilV] 27)) (by simp) (fourS.map strV) 9
  have HB0 : Below w.heap.size w ((((((w.alloc (.cells SRC.toArray 39)).alloc (.cells zeroF.toArray 30)).alloc (.map #[] 0)).alloc (.cells #[.map (some (w.heap.size + 2))] 59)).alloc (.cells #[nilV] 27)).alloc (.cells (fourS.map strV).toArray 9)) := bl_a (bl_a (bl_a (bl_a (bl_a (bl_a (Below.refl _ _) _) _) _) _) _) _
  rw [hSRC] at HM0 HF0 HB0
  obtain ⟨W0, hW0⟩ : ∃ W0, (((((w.alloc (.cells #[.string ⟨#[]⟩, .string ⟨#[]⟩, .string ⟨#[]⟩, .int .i64 0, .int .i64 0, .slice a1 d.fl.length c1, .slice a2 d.pr.length c2, .slice a3 d.gl.length c3, .slice a4 d.ob.length c4, .slice a5 d.ve.length c5, nilV, .slice a6 d.fu.length c6, .slice a7 d.da.length c7] 39)).alloc (.cells #[.int .i64 0, .int .i64 0, .int .i64 0, .string ⟨#[]⟩] 30)).alloc (.map #[] 0)).alloc (.cells #[.map (some (w.heap.size + 2))] 59)).alloc (.cells #[.slice none 0 0] 27)).alloc (.cells #[.string ⟨#[108, 105, 116]⟩, .string ⟨#[111, 112, 101, 110]⟩, .string ⟨#[98, 111, 120]⟩, .string ⟨#[104, 105, 100, 100, 101, 110]⟩] 9) = W0 := ⟨_, rfl⟩
  have HM1 : Hid (MkS W0 w.heap.size SRC nilV []) := Lib.hid (by rw [← hW0, hSRC]; exact HM0)
  have HF1 : Hid (BK W0 (w.heap.size + 5) (fourS.map strV) 9) := Lib.hid (by rw [← hW0]; exact HF0)
  have HB1 : Hid (Below w.heap.size w W0) := Lib.hid (by rw [← hW0]; exact HB0)
  have HSRC := Lib.hid hSRC
  rw [hW0]
  clear hW0 HM0 HF0 HB0 hSRC hmm
  go_loopw [18] (fun i wr => ∃ (p : Nat) (v : Value), i = .int .i64 p ∧ p ≤ 4 ∧ Hid (MkS wr w.heap.size SRC v (fourN.take p)) ∧ Hid (BK wr (w.heap.size + 5) (fourS.map strV) 9) ∧ Hid (∀ k, v.ownBlock = some k → w.heap.size + 6 ≤ k) ∧ Hid (Below w.heap.size w wr)) (fun i _ => 4 - (intOf i).toNat)
  case atStart => exact ⟨0, nilV, rfl, by omega, HM1, HF1, Lib.hid (fun k hk => by simp [Value.ownBlock] at hk), HB1⟩
  case round =>
    obtain ⟨wr1, hwr⟩ : ∃ x, x = wr := ⟨_, rfl⟩
    subst hwr
    obtain ⟨p, v, rfl, hp4, hM, hF, hO, hB⟩ := hrel
    by_cases hlt : p < 4
    · have e0 := hF.out.cell p
      obtain ⟨n, hmx, hn1, hn2⟩ := four_step p hlt
      rw [hn1] at e0
      have HT := Lib.hid hn2
      have hol : (fourN.take p).length ≤ 100000 := by simp [fourN]; omega
      have hA := fun w' h => namesAdd ⟨n, 1, p⟩ w' w.heap.size SRC v (fourN.take p) h hmx hol
      have HA := Lib.hid hA
      clear hmx hol hn1 hn2 hA
      go_wp2_with (go_at_call 24; refine (HA.out _ hM.out).mono ?_; rintro e w5 ⟨rfl, v5, hS5, hB5, hst⟩)
      have HM5 : Hid (MkS w5 w.heap.size SRC v5 (fourN.take (p + 1))) := Lib.hid (by rw [HT.out]; exact hS5)
      have HF5 := Lib.hid (hst.bk hF.out (by omega) (by omega) (fun e => by have := hO.out _ e; omega))
      have HO5 : Hid (∀ k, v5.ownBlock = some k → w.heap.size + 6 ≤ k) := Lib.hid (fun k hk => by
        rcases hst.own k hk with h | h
        · exact hO.out k h
        · have := hF.out.lt; omega)
      have HB5 := Lib.hid (hB.out.trans hB5)
      clear hS5 hB5 hst
      go_wp2
      go_roundw
      case rel => exact ⟨p + 1, v5, by go_num, by omega, HM5, HF5, HO5, HB5⟩
      case measure => simp [intOf]; omega
    · have hpe : p = 4 := by omega
      subst hpe
      obtain ⟨va, vc, hv⟩ := ow_shape hM.out.own
      subst hv
      have kb := hM.out.bs
      rw [HSRC.out] at kb
      have ks0 := kb.cell 0
      have ks1 := kb.cell 1
      have ks2 := kb.cell 2
      have ks3 := kb.cell 3
      have ks4 := kb.cell 4
      have ks5 := kb.cell 5
      have ks6 := kb.cell 6
      have ks7 := kb.cell 7
      have ks8 := kb.cell 8
      have ks9 := kb.cell 9
      have ks10 := kb.cell 10
      have ks11 := kb.cell 11
      have ks12 := kb.cell 12
      simp only [List.getElem?_cons_zero, List.getElem?_cons_succ] at ks0 ks1 ks2 ks3 ks4 ks5 ks6 ks7 ks8 ks9 ks10 ks11 ks12
      have HR := Lib.hid (fun w' h => namesRows (.slice a1 d.fl.length c1) (.slice a2 d.pr.length c2) (.slice a3 d.gl.length c3) (.slice a4 d.ob.length c4) (.slice a5 d.ve.length c5) (.slice a6 d.fu.length c6) (.slice a7 d.da.length c7) d w' h ⟨by have := HD.out.fl; omega, by have := HD.out.pr; omega, by have := HD.out.gl; omega, by have := HD.out.ob; omega, by have := HD.out.ve; omega, by have := HD.out.fu; omega, by have := HD.out.da; omega⟩)
      clear kb
      go_wp2_with (go_at_call 25; refine (HR.out _ (HS.out.below hB.out)).mono ?_; rintro e w2 ⟨K, T, v1, v2, v3, v4, v5, v6, rfl, hK, o1, o2, o3, o4, o5, o6, hB2, hKlt⟩)
      clear ks0 ks1 ks2 ks3 ks4 ks5 ks6 ks7 ks8 ks9 ks10 ks11 ks12
      have hown := hM.out.own
      have hlt1 : ∀ k, (Value.slice va 4 vc).ownBlock = some k → k < wr1.heap.size := fun k hk => (World.ownsRow.lt hown k hk).2
      have hlt2 : ∀ k, (Value.slice va 4 vc).ownBlock = some k → w.heap.size ≤ k := fun k hk => by have := (World.ownsRow.lt hown k hk).1; omega
      have hsz1 : w.heap.size + 4 < wr1.heap.size := by have := hM.out.size; omega
      have HB2 : Hid (Below w.heap.size w w2) := Lib.hid (hB.out.trans (hB2.mono hB.out.size))
      obtain ⟨RS, hRS⟩ : ∃ RS, RS = rowsR (.slice a1 d.fl.length c1) v1 v2 v3 v4 v5 v6 d := ⟨_, rfl⟩
      have hlen : RS.length = 7 := by rw [hRS]; rfl
      have HOK : Hid (∀ x ∈ RS, RowOk w2 w.heap.size (.slice va 4 vc) x) := Lib.hid (by
        rw [hRS]
        intro x hx
        simp only [rowsR, List.mem_cons, List.not_mem_nil, or_false] at hx
        rcases hx with rfl | rfl | rfl | rfl | rfl | rfl | rfl
        · exact RowOk.read HS.out.fl HB2.out (Nat.le_refl _) hlt2 HD.out.fl (by simp) (by simp)
        · exact RowOk.own o1 hsz1 hlt1 HD.out.pr (seq_all (c := Cd.pair) (fun _ _ _ h => h.2) HS.out.pr) (by simp) (by simp)
        · exact RowOk.own o2 hsz1 hlt1 HD.out.gl (seq_all (c := Cd.pair) (fun _ _ _ h => h.2) HS.out.gl) (by simp) (by simp)
        · exact RowOk.own o3 hsz1 hlt1 HD.out.ob (seq_all (c := Cd.obj) (fun _ _ _ h => h.2) HS.out.ob) (by simp) (by simp)
        · exact RowOk.own o4 hsz1 hlt1 HD.out.ve (seq_all (c := Cd.verb) (fun _ _ _ h => h.2) HS.out.ve) (by simp) (by simp)
        · exact RowOk.own o5 hsz1 hlt1 HD.out.fu (seq_all (c := Cd.func) (fun _ _ _ h => h.2) HS.out.fu) (by simp) (by simp)
        · exact RowOk.own o6 hsz1 hlt1 HD.out.da (seq_all (c := Cd.func) (fun _ _ _ h => h.2) HS.out.da) (by simp) (by simp))
      have HK : Hid (BK w2 K (RS.map RW.cells).flatten T) := Lib.hid (by rw [hRS, ← rowsC_flat]; exact hK)
      have HRUN : Hid (runN okN (entsR RS) fourN = R) := Lib.hid (by rw [hRS, rows_ents]; exact HR0.out)
      have HM2 : Hid (MkS w2 w.heap.size SRC (.slice va 4 vc) fourN) := Lib.hid (hM.out.below hB2)
      have HKB : Hid (∀ k, (Value.slice va 4 vc).ownBlock = some k → k < K) := Lib.hid (fun k hk => Nat.lt_of_lt_of_le (hlt1 k hk) hKlt)
      have hKn : K ≠ w.heap.size + 2 ∧ K ≠ w.heap.size + 4 := by omega
      obtain ⟨vM, hvM⟩ : ∃ vM, vM = Value.slice va 4 vc := ⟨_, rfl⟩
      rw [← hvM] at HOK HM2 HKB
      clear hown hlt1 hlt2 hRS hK hB2 o1 o2 o3 o4 o5 o6 hF hO hB HR hM hKlt hvM
      go_loopw [32] (fun i wr => ∃ (q : Nat) (v : Value) (out : List NM), i = .int .i64 q ∧ q ≤ 7 ∧ out.length ≤ 4 + 400 * q ∧ Hid (MkS wr w.heap.size SRC v out) ∧ Hid (Stays w2 wr w.heap.size vM v) ∧ Hid (Below w.heap.size w wr) ∧ Hid (runN okN (entsR (RS.drop q)) out = R)) (fun i _ => 7 - (intOf i).toNat)
      case atStart => exact ⟨0, vM, fourN, rfl, by omega, by decide, HM2, Lib.hid (Stays.refl _ _ _), HB2, HRUN⟩
      case round =>
        obtain ⟨wr2, hwr2⟩ : ∃ x, x = wr := ⟨_, rfl⟩
        subst hwr2
        obtain ⟨q, v, out, rfl, hq7, hol, hM, hS, hB, hrun⟩ := hrel
        by_cases hlt : q < 7
        · have hK2 := HS
          have hqr : q < RS.length := by omega
          have hx := HOK.out (RS[q]'hqr) (List.getElem_mem _)
          have hkc : BK wr2 K (RS.map RW.cells).flatten T := hS.out.bk HK.out hKn.1 hKn.2 (fun e => by have := HKB.out K e; omega)
          have kr := fun j hj => rows_cell hkc q j hqr hj
          have hen := ents_drop RS q hqr
          have HRQ : Hid (runN okN ((RS[q]'hqr).ents ++ entsR (RS.drop (q + 1))) out = R) := Lib.hid (by rw [← hen]; exact hrun.out)
          clear hen
          generalize RS[q]'hqr = x at hx kr HRQ
          obtain ⟨kd, part, most, from_, xv, l⟩ := x
          obtain ⟨a, c, hxv, hmx, hl4, hf0, hf4, hcell⟩ := hx
          simp only at hxv hmx hl4 hf0 hf4 hcell
          subst hxv
          have k0 := kr 0 (by omega)
          have k1 := kr 1 (by omega)
          have k2 := kr 2 (by omega)
          have k3 := kr 3 (by omega)
          have k4 := kr 4 (by omega)
          simp only [RW.cells, rowC, List.getElem?_cons_zero, List.getElem?_cons_succ, Nat.add_zero] at k0 k1 k2 k3 k4
          clear kr hkc hK2
          have hbl := bl_a (Below.refl wr2.heap.size wr2) (.cells #[.int .i64 kd, .int .i64 part, .int .i64 most, .int .i64 from_, .slice a l.length c] 64)
          have HX0 : Hid (BK (wr2.alloc (.cells #[.int .i64 kd, .int .i64 part, .int .i64 most, .int .i64 from_, .slice a l.length c] 64)) wr2.heap.size [.int .i64 kd, .int .i64 part, .int .i64 most, .int .i64 from_, .slice a l.length c] 64) := Lib.hid (BK.new wr2 [.int .i64 kd, .int .i64 part, .int .i64 most, .int .i64 from_, .slice a l.length c] _)
          have HM0 := Lib.hid (hM.out.below hbl)
          have HS0 := Lib.hid (hS.out.below hbl)
          have HB0 := Lib.hid (bl_a hB.out (.cells #[.int .i64 kd, .int .i64 part, .int .i64 most, .int .i64 from_, .slice a l.length c] 64))
          have HV0 : Hid (∀ k, v.ownBlock = some k → k ≠ wr2.heap.size) := Lib.hid (fun k hk => by have := (World.ownsRow.lt hM.out.own k hk).2; omega)
          have hXB : wr2.heap.size ≠ w.heap.size + 2 ∧ wr2.heap.size ≠ w.heap.size + 4 := by have := hM.out.size; omega
          have HCELL := Lib.hid hcell
          have HMAX := Lib.hid hmx
          have HRQ0 : Hid (runN okN (entsF kd part most from_ (l.drop 0) 0 ++ entsR (RS.drop (q + 1))) out = R) := HRQ
          obtain ⟨BX, hBX⟩ : ∃ BX, BX = wr2.heap.size := ⟨_, rfl⟩
          rw [← hBX] at HX0 HV0 hXB
          have hd7 : decide ((q : Int) < 7) = true := decide_eq_true (by omega)
          go_wp2
          rw [← hBX]
          (try rw [hd7])
          clear hd7
          clear hcell hmx k0 k1 k2 k3 k4 hM hS hB hrun hbl HRQ
          generalize hW3 : wr2.alloc _ = W3 at HX0 HM0 HS0 HB0 ⊢
          clear hW3 hBX
          go_loopw [39] (fun i wr => ∃ (p : Nat) (v : Value) (out : List NM), i = .int .i64 p ∧ p ≤ l.length ∧ out.length ≤ 4 + 400 * q + p ∧ Hid (BK wr BX [.int .i64 kd, .int .i64 part, .int .i64 most, .int .i64 from_, .slice a l.length c] 64) ∧ Hid (MkS wr w.heap.size SRC v out) ∧ Hid (Stays w2 wr w.heap.size vM v) ∧ Hid (Below w.heap.size w wr) ∧ Hid (∀ k, v.ownBlock = some k → k ≠ BX) ∧ Hid (runN okN (entsF kd part most from_ (l.drop p) p ++ entsR (RS.drop (q + 1))) out = R)) (fun i _ => l.length - (intOf i).toNat)
          case atStart => exact ⟨0, v, out, rfl, Nat.zero_le _, by omega, HX0, HM0, HS0, HB0, HV0, HRQ0⟩
          case round =>
            obtain ⟨wr3, hwr3⟩ : ∃ x, x = wr := ⟨_, rfl⟩
            subst hwr3
            clear HX0 HM0 HS0 HB0 HV0 HRQ0 hol
            obtain ⟨p, v', out', rfl, hpl, hol, hX, hM, hS, hB, hV, hrun⟩ := hrel
            by_cases hpt : p < l.length
            · obtain ⟨b, off, ha, hb1, hb2, hb3, hb4, hb5⟩ := HCELL.out p hpt
              have hc0 := (cell_block (hS.out.block b hb1 hb2 hb3 hb4) (off + p)).trans hb5
              have hmxn := HMAX.out l[p] (List.getElem_mem _)
              have HRP : Hid (runN okN (⟨l[p], kd, part, p, from_ + p, most⟩ :: (entsF kd part most from_ (l.drop (p + 1)) (p + 1) ++ entsR (RS.drop (q + 1)))) out' = R) := Lib.hid (by have h := hrun.out; rw [entsF_drop kd part most from_ l p hpt] at h; exact h)
              generalize l[p] = n at hc0 hmxn HRP
              have kx := hX.out
              have x0 := kx.cell 0
              have x1 := kx.cell 1
              have x2 := kx.cell 2
              have x3 := kx.cell 3
              simp only [List.getElem?_cons_zero, List.getElem?_cons_succ] at x0 x1 x2 x3
              have c4 := hM.out.bm.cell 0
              simp only [List.getElem?_cons_zero] at c4
              have hlook : (Instr.lookup 59 (.map (some (w.heap.size + 2))) (.string ⟨n.toArray⟩) false).run Try.prog wr3 = .ok (.bool (decide (n ∈ out'.map (·.nm)))) wr3 := hM.out.met.look n hmxn
              clear kx hb1 hb2 hb3 hb4 hb5
              subst ha
              have kf := hM.out.bf
              have HF3 := Lib.hid kf
              have f0 := kf.cell 0
              have f1 := kf.cell 1
              have f2 := kf.cell 2
              have f3 := kf.cell 3
              have r0 := kf.fr 0
              have r1 := kf.fr 1
              have r2 := kf.fr 2
              have r3 := kf.fr 3
              simp only [List.getElem?_cons_zero, List.getElem?_cons_succ] at f0 f1 f2 f3
              have hm3 := (hB.out.cell (p := ⟨0, 0, none⟩) (lt_cell HMX.out)).trans HMX.out
              have hsz : (⟨n.toArray⟩ : ByteArray).size = n.length := rfl
              have HI := Lib.hid (fun w => letIsName ⟨n.toArray⟩ w (by unfold maxLen at hmxn; rw [hsz]; omega))
              clear kf
              by_cases h7 : most ≤ (p : Int)
              · have HKY := HI
                have HE : Hid (R = .inl (7, ⟨n, kd, part, p, from_ + p, most⟩)) := Lib.hid (by
                  have h := HRP.out
                  rw [runN] at h
                  have he : errN okN (out'.map (·.nm)) ⟨n, kd, part, p, from_ + p, most⟩ = 7 := if_pos h7
                  rw [he, if_pos (by decide)] at h
                  exact h.symm)
                go_wp2_with (first | (go_at_call 22; refine (HI.out _).mono ?_; rintro e w' ⟨rfl, rfl⟩) | (go_at_call 23; refine (HKY.out _ (by assumption)).mono ?_; rintro e w' ⟨rfl, rfl⟩))
                go_region
                have g := fault_set HF3.out (.int .i64 7) (.int .i64 part) (.int .i64 p) (.string ⟨n.toArray⟩)
                have g0 := g.cell 0
                have g1 := g.cell 1
                have g2 := g.cell 2
                have g3 := g.cell 3
                simp only [List.getElem?_cons_zero, List.getElem?_cons_succ] at g0 g1 g2 g3
                clear g
                go_wp2
                (try simp only [Exit.inBlock, Exit.then])
                (try rw [Exit.noGoto_ret])
                refine bodyPost_ret (v := .tuple #[nilV, .agg #[.int .i64 7, .int .i64 part, .int .i64 p, .string ⟨n.toArray⟩]]) ?_ rfl ⟨nilV, ?_, ?_, ?_⟩
                · rw [results_tmp_cell rfl]; go_simp
                · rw [HE.out]; rfl
                · exact (bl_s (bl_s (bl_s (bl_s hB.out _ _) _ _) _ _) _ _).drew
                · rw [HE.out]; exact reads_nil _
              · cases hI : isNameL n with
                | false =>
                  have HKY := HI
                  have hI2 : isNameS ⟨n.toArray⟩ = false := hI
                  rw [hI2] at HI
                  have HE : Hid (R = .inl (9, ⟨n, kd, part, p, from_ + p, most⟩)) := Lib.hid (by
                    have h := HRP.out
                    rw [runN] at h
                    have he : errN okN (out'.map (·.nm)) ⟨n, kd, part, p, from_ + p, most⟩ = 9 := (if_neg h7).trans (if_pos (by show okN n = false; unfold okN; rw [hI]; rfl))
                    rw [he, if_pos (by decide)] at h
                    exact h.symm)
                  go_wp2_with (first | (go_at_call 22; refine (HI.out _).mono ?_; rintro e w' ⟨rfl, rfl⟩) | (go_at_call 23; refine (HKY.out _ (by assumption)).mono ?_; rintro e w' ⟨rfl, rfl⟩))
                  go_region
                  have g := fault_set HF3.out (.int .i64 9) (.int .i64 part) (.int .i64 p) (.string ⟨n.toArray⟩)
                  have g0 := g.cell 0
                  have g1 := g.cell 1
                  have g2 := g.cell 2
                  have g3 := g.cell 3
                  simp only [List.getElem?_cons_zero, List.getElem?_cons_succ] at g0 g1 g2 g3
                  clear g
                  go_wp2
                  (try simp only [Exit.inBlock, Exit.then])
                  (try rw [Exit.noGoto_ret])
                  refine bodyPost_ret (v := .tuple #[nilV, .agg #[.int .i64 9, .int .i64 part, .int .i64 p, .string ⟨n.toArray⟩]]) ?_ rfl ⟨nilV, ?_, ?_, ?_⟩
                  · rw [results_tmp_cell rfl]; go_simp
                  · rw [HE.out]; rfl
                  · exact (bl_s (bl_s (bl_s (bl_s hB.out _ _) _ _) _ _) _ _).drew
                  · rw [HE.out]; exact reads_nil _
                | true =>
                  have hnl : n.length ≤ 24 := by
                    unfold isNameL at hI
                    simp at hI; omega
                  have hI2 : isNameS ⟨n.toArray⟩ = true := hI
                  rw [hI2] at HI
                  have HKY := Lib.hid (fun w h => lexKey ⟨n.toArray⟩ m w (by rw [hsz]; omega) h)
                  cases hY : keyL n with
                  | true =>
                    have hY2 : keyL (⟨n.toArray⟩ : ByteArray).data.toList = true := hY
                    rw [hY2] at HKY
                    have HE : Hid (R = .inl (9, ⟨n, kd, part, p, from_ + p, most⟩)) := Lib.hid (by
                      have h := HRP.out
                      rw [runN] at h
                      have he : errN okN (out'.map (·.nm)) ⟨n, kd, part, p, from_ + p, most⟩ = 9 := (if_neg h7).trans (if_pos (by show okN n = false; unfold okN; rw [hI, hY]; rfl))
                      rw [he, if_pos (by decide)] at h
                      exact h.symm)
                    go_wp2_with (first | (go_at_call 22; refine (HI.out _).mono ?_; rintro e w' ⟨rfl, rfl⟩) | (go_at_call 23; refine (HKY.out _ (by assumption)).mono ?_; rintro e w' ⟨rfl, rfl⟩))
                    go_region
                    have g := fault_set HF3.out (.int .i64 9) (.int .i64 part) (.int .i64 p) (.string ⟨n.toArray⟩)
                    have g0 := g.cell 0
                    have g1 := g.cell 1
                    have g2 := g.cell 2
                    have g3 := g.cell 3
                    simp only [List.getElem?_cons_zero, List.getElem?_cons_succ] at g0 g1 g2 g3
                    clear g
                    go_wp2
                    (try simp only [Exit.inBlock, Exit.then])
                    (try rw [Exit.noGoto_ret])
                    refine bodyPost_ret (v := .tuple #[nilV, .agg #[.int .i64 9, .int .i64 part, .int .i64 p, .string ⟨n.toArray⟩]]) ?_ rfl ⟨nilV, ?_, ?_, ?_⟩
                    · rw [results_tmp_cell rfl]; go_simp
                    · rw [HE.out]; rfl
                    · exact (bl_s (bl_s (bl_s (bl_s hB.out _ _) _ _) _ _) _ _).drew
                    · rw [HE.out]; exact reads_nil _
                  | false =>
                    have hY2 : keyL (⟨n.toArray⟩ : ByteArray).data.toList = false := hY
                    rw [hY2] at HKY
                    have hok : ¬ okN n = false := by unfold okN; rw [hI, hY]; decide
                    by_cases hmt : n ∈ out'.map (·.nm)
                    · rw [decide_eq_true hmt] at hlook
                      have HE : Hid (R = .inl (10, ⟨n, kd, part, p, from_ + p, most⟩)) := Lib.hid (by
                        have h := HRP.out
                        rw [runN] at h
                        have he : errN okN (out'.map (·.nm)) ⟨n, kd, part, p, from_ + p, most⟩ = 10 := (if_neg h7).trans ((if_neg hok).trans (if_pos hmt))
                        rw [he, if_pos (by decide)] at h
                        exact h.symm)
                      go_wp2_with (first | (go_at_call 22; refine (HI.out _).mono ?_; rintro e w' ⟨rfl, rfl⟩) | (go_at_call 23; refine (HKY.out _ (by assumption)).mono ?_; rintro e w' ⟨rfl, rfl⟩))
                      go_region
                      have g := fault_set HF3.out (.int .i64 10) (.int .i64 part) (.int .i64 p) (.string ⟨n.toArray⟩)
                      have g0 := g.cell 0
                      have g1 := g.cell 1
                      have g2 := g.cell 2
                      have g3 := g.cell 3
                      simp only [List.getElem?_cons_zero, List.getElem?_cons_succ] at g0 g1 g2 g3
                      clear g
                      go_wp2
                      (try simp only [Exit.inBlock, Exit.then])
                      (try rw [Exit.noGoto_ret])
                      refine bodyPost_ret (v := .tuple #[nilV, .agg #[.int .i64 10, .int .i64 part, .int .i64 p, .string ⟨n.toArray⟩]]) ?_ rfl ⟨nilV, ?_, ?_, ?_⟩
                      · rw [results_tmp_cell rfl]; go_simp
                      · rw [HE.out]; rfl
                      · exact (bl_s (bl_s (bl_s (bl_s hB.out _ _) _ _) _ _) _ _).drew
                      · rw [HE.out]; exact reads_nil _
                    · rw [decide_eq_false hmt] at hlook
                      have HE : Hid (runN okN (entsF kd part most from_ (l.drop (p + 1)) (p + 1) ++ entsR (RS.drop (q + 1))) (out' ++ [⟨n, kd, from_ + p⟩]) = R) := Lib.hid (by
                        have h := HRP.out
                        rw [runN] at h
                        have he : errN okN (out'.map (·.nm)) ⟨n, kd, part, p, from_ + p, most⟩ = 0 := (if_neg h7).trans ((if_neg hok).trans (if_neg hmt))
                        rw [he, if_neg (by decide)] at h
                        exact h)
                      have hwrp : IntKind.i64.wrap (from_ + p) = from_ + p := IntWalk.i64_in _ (by omega)
                      have HA := Lib.hid (namesAdd ⟨n, kd, from_ + p⟩ wr3 w.heap.size SRC v' out' hM.out hmxn (by omega))
                      go_wp2_with (first | (go_at_call 22; refine (HI.out _).mono ?_; rintro e w' ⟨rfl, rfl⟩) | (go_at_call 23; refine (HKY.out _ (by assumption)).mono ?_; rintro e w' ⟨rfl, rfl⟩) | (go_at_call 24; refine HA.out.mono ?_; rintro e w5 ⟨rfl, v5, hM5, hB5, hS5⟩))
                      have HM5 := Lib.hid hM5
                      have HB5 := Lib.hid (hB.out.trans hB5)
                      have HX5 : Hid (BK w5 BX [.int .i64 kd, .int .i64 part, .int .i64 most, .int .i64 from_, .slice (some ⟨b, off, none⟩) l.length c] 64) := Lib.hid (hS5.bk hX.out hXB.1 hXB.2 (fun e => hV.out _ e rfl))
                      have HV5 : Hid (∀ k, v5.ownBlock = some k → k ≠ BX) := Lib.hid (fun k hk => by
                        rcases hS5.own k hk with h | h
                        · exact hV.out k h
                        · have := hX.out.lt; omega)
                      have HS5 := Lib.hid (hS.out.trans hS5)
                      clear hM5 hB5 hS5
                      go_wp2
                      go_roundw
                      case rel => exact ⟨p + 1, v5, out' ++ [⟨n, kd, from_ + p⟩], by go_num, by omega, by simp; omega, HX5, HM5, HS5, HB5, HV5, HE⟩
                      case measure => simp [intOf]; omega
            · have hpe : p = l.length := by omega
              have HE : Hid (runN okN (entsR (RS.drop (q + 1))) out' = R) := Lib.hid (by have h := hrun.out; rw [hpe, List.drop_length] at h; exact h)
              go_wp2
              go_roundw
              case rel => exact ⟨q + 1, v', out', by go_num, by omega, by omega, hM, hS, hB, HE⟩
              case measure => simp [intOf]; omega
        · have hqe : q = 7 := by omega
          have hRE : R = .inr out := by
            have h := hrun.out
            rw [List.drop_eq_nil_of_le (by omega)] at h
            exact h.symm
          have hR2 := HR0.out
          rw [hRE] at hR2
          have hnd := run_nodup okN _ _ _ (by decide) hR2
          have hln := run_len okN _ _ _ hR2
          have hnk := run_all okN NmOk _ _ _ four_ok (HS.out.ents_ok HD.out) hR2
          have hl0 : 0 < out.length := by rw [hln]; exact Nat.lt_of_lt_of_le (by decide) (Nat.le_add_right _ _)
          have HSO := Lib.hid (namesSort v out wr2 (w.heap.size + 5) hM.out.own hnd hl0 (by omega) hnk)
          have HRE := Lib.hid hRE
          obtain ⟨va2, vc2, hv2⟩ := ow_shape hM.out.own
          subst hv2
          have c4 := hM.out.bo.cell 0
          simp only [List.getElem?_cons_zero] at c4
          have HLO := Lib.hid (fun k (hk : (Value.slice va2 out.length vc2).ownBlock = some k) => (World.ownsRow.lt hM.out.own k hk).1)
          clear hRE hR2 hnd hln hnk hl0
          go_wp2_with (go_at_call 26; refine HSO.out.mono ?_; rintro e w6 ⟨rfl, hRD, hG6⟩; have kb := hM.out.bo.kept hG6 (fun j hj => by have := HLO.out j hj; omega); have cb := kb.cell 0; have kf := hM.out.bf.kept hG6 (fun j hj => by have := HLO.out j hj; omega); have f0 := kf.cell 0; have f1 := kf.cell 1; have f2 := kf.cell 2; have f3 := kf.cell 3; have r0 := kf.fr 0; have r1 := kf.fr 1; have r2 := kf.fr 2; have r3 := kf.fr 3; simp only [List.getElem?_cons_zero, List.getElem?_cons_succ] at cb f0 f1 f2 f3; have KF := Lib.hid kf; have HG6 := Lib.hid hG6; have HRD := Lib.hid hRD; clear kb kf hG6 hRD)
          have g := (((KF.out.set 0 (.int .i64 0)).set 1 (.int .i64 0)).set 2 (.int .i64 0)).set 3 (.string ⟨#[]⟩)
          have g0 := g.cell 0
          have g1 := g.cell 1
          have g2 := g.cell 2
          have g3 := g.cell 3
          simp only [List.getElem?_cons_zero, List.getElem?_cons_succ, List.set_cons_zero, List.set_cons_succ] at g0 g1 g2 g3
          have hB6 : Below w.heap.size w w6 := bl_g hB.out HG6.out (fun j hj => by have := HLO.out j hj; omega)
          have hne : ∀ j, some (w.heap.size + 1) = some j → (Value.slice va2 out.length vc2).ownBlock ≠ some j := fun j hj e => by have := HLO.out j e; have := Option.some.inj hj; omega
          (try simp only [Exit.inBlock, Exit.then])
          (try rw [Exit.noGoto_ret])
          refine bodyPost_ret (v := .tuple #[.slice va2 out.length vc2, .agg #[.int .i64 0, .int .i64 0, .int .i64 0, .string ⟨#[]⟩]]) ?_ rfl ⟨.slice va2 out.length vc2, ?_, ?_, ?_⟩
          · rw [results_tmp_cell rfl]; go_simp
          · rw [HRE.out]; rfl
          · exact bl_s (bl_s (bl_s (bl_s hB6 _ _) _ _) _ _) _ _
          · rw [HRE.out]
            exact (((HRD.out.kept (fun _ _ _ _ h => h) (gr_set _ _ _ _) hne).kept (fun _ _ _ _ h => h) (gr_set _ _ _ _) hne).kept (fun _ _ _ _ h => h) (gr_set _ _ _ _) hne).kept (fun _ _ _ _ h => h) (gr_set _ _ _ _) hne
end Go.Proofs.Ytdommneciojiaaa
