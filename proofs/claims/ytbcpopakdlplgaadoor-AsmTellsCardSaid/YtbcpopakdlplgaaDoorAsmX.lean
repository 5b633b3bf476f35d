/- Disassemble: the state while it lays the list; the contract of its closure label.; Disassemble: rows of whole numbers, what it answers. -/
import Derived.Test.YtbcpopakdlplgaaDoorAsmPlain
import Derived.Test.YtbcpopakdlplgaaDoorAsmN
import Derived.Deep.AppendLies
import Derived.Test.YtbcpopakdlplgaaDoorAsmD2
import Derived.Test.YtbcpopakdlplgaaDoorAsmY
namespace Go.Proofs.YtbcpopakdlplgaaDoor
open Go.RowKit Go.PlainAid Go.Maps
set_option linter.unusedVariables false
set_option linter.unusedSimpArgs false

/-- The state: which places are asked for (a map in a box), the list (in a box), the numbers (a map in a box). -/
structure DisSt (w : World) (b1 bO nA nN : Nat) (A : Int → Bool) (v : Value) (s : List IN × List (Int × Int)) : Prop where
  ka : BK w (b1 + 1) [.map (some b1)] 42
  ma : MetB w b1 nA A
  ko : BK w bO [v] 22
  ow : OwI w (bO + 3) v s.1
  kn : BK w (bO + 2) [.map (some (bO + 1))] 44
  mn : NumIs w (bO + 1) nN s.2
  lt : b1 + 1 < bO
section
variable {w w' : World} {b1 bO nA nN : Nat} {A : Int → Bool} {v : Value} {s : List IN × List (Int × Int)}
theorem DisSt.below (h : DisSt w b1 bO nA nN A v s) (hb : Below w.heap.size w w') : DisSt w' b1 bO nA nN A v s :=
  { h with ka := h.ka.below hb, ma := h.ma.below hb, ko := h.ko.below hb, ow := ow_below h.ow hb, kn := h.kn.below hb, mn := h.mn.below hb }
theorem DisSt.more (h : DisSt w b1 bO nA nN A v s) {m : Nat} (hm : nN ≤ m) : DisSt w b1 bO nA m A v s :=
  { h with mn := by obtain ⟨D, h1, h2⟩ := h.mn; exact ⟨D, h1.mono hm, h2⟩ }
/-- Something else is written: a block from the state's base on that is not the list's own. -/
theorem DisSt.other (h : DisSt w b1 bO nA nN A v s) {row : Option Nat} (hg : w.grownBy w' row) (hr : ∀ j, row = some j → bO + 2 < j ∧ v.ownBlock ≠ some j) : DisSt w' b1 bO nA nN A v s :=
  have hl := h.lt
  { h with
    ka := h.ka.kept hg (fun j hj => by have := (hr j hj).1; omega)
    ma := h.ma.kept hg (fun e => by have := (hr _ e).1; omega)
    ko := h.ko.kept hg (fun j hj => by have := (hr j hj).1; omega)
    ow := World.ownsRow.kept h.ow hg (by
      cases hv : v.ownBlock with
      | none => exact .inl rfl
      | some k => right; intro e; exact (hr k e.symm).2 hv)
    kn := h.kn.kept hg (fun j hj => by have := (hr j hj).1; omega)
    mn := h.mn.kept hg (fun e => by have := (hr _ e).1; omega) }
/-- The list is appended to, and stored in its box. -/
theorem DisSt.app (h : DisSt w b1 bO nA nN A v s) {W5 : World} {v5 : Value} {x : IN} (hg : w.grownBy W5 v.ownBlock) (hown : OwI W5 (bO + 3) v5 (s.1 ++ [x])) :
    DisSt (W5.setCell ⟨bO, 0, none⟩ v5) b1 bO nA nN A v5 (s.1 ++ [x], s.2) :=
  have hl := h.lt
  have hlo : ∀ j, v.ownBlock = some j → bO + 3 ≤ j := fun j hj => ow_lo h.ow j hj
  { lt := h.lt
    ka := (h.ka.kept hg (fun j hj => by have := hlo j hj; omega)).setO (by omega) _ _
    ma := (h.ma.kept hg (fun e => by have := hlo _ e; omega)).kept (gr_set _ _ _ _) (by simp; omega)
    ko := (h.ko.kept hg (fun j hj => by have := hlo j hj; omega)).set 0 v5
    ow := World.ownsRow.kept hown (gr_set _ _ _ _) (by
      cases hv : v5.ownBlock with
      | none => exact .inl rfl
      | some k => right; intro e; have := ow_lo hown k hv; have := Option.some.inj e; omega)
    kn := (h.kn.kept hg (fun j hj => by have := hlo j hj; omega)).setO (by omega) _ _
    mn := (h.mn.kept hg (fun e => by have := hlo _ e; omega)).kept (gr_set _ _ _ _) (by simp) }
theorem DisSt.num (h : DisSt w b1 bO nA nN A v s) {W5 : World} {q : List (Int × Int)} (hg : w.grownBy W5 (some (bO + 1))) (hn : NumIs W5 (bO + 1) (nN + 1) q) :
    DisSt W5 b1 bO nA (nN + 1) A v (s.1, q) :=
  have hl := h.lt
  { lt := h.lt
    ka := h.ka.kept hg (fun j hj => by cases hj; omega)
    ma := h.ma.kept hg (by simp; omega)
    ko := h.ko.kept hg (fun j hj => by cases hj; omega)
    ow := World.ownsRow.kept h.ow hg (by
      cases hv : v.ownBlock with
      | none => exact .inl rfl
      | some k => right; intro e; have := ow_lo h.ow k hv; have := Option.some.inj e; omega)
    kn := h.kn.kept hg (fun j hj => by cases hj; omega)
    mn := hn }
theorem DisSt.cells (h : DisSt w b1 bO nA nN A v s) : w.cell? ⟨b1 + 1, 0, none⟩ = some (.map (some b1)) ∧ w.cell? ⟨bO, 0, none⟩ = some v ∧ w.cell? ⟨bO + 2, 0, none⟩ = some (.map (some (bO + 1))) ∧ w.frozen? ⟨bO, 0, none⟩ = false :=
  ⟨h.ka.cell 0, h.ko.cell 0, h.kn.cell 0, h.ko.fr 0⟩
end
/-- An append of something: where what comes of it lies. -/
theorem wpList_append_lies {P : Program} {w : World} {ops : Array Oper} {rest : List Oper} {o : Oper} {a : Act} {Q : Exit → Act → World → Prop} (hgd : o.guard = none) (s x : Operand) (t : TypeId)
    (ho : o.op = .call { callee := .builtin .append, args := #[s, x], argTypes := #[t, t] })
    (base : Nat) (e : TypeId) (i : TypeInfo) (z : Value) (size bytes : Nat) (ht : P.underlying t = some (.slice e)) (hi : P.info? e = some i) (hz : i.zero = some z)
    (hsize : i.size = size) (hby : i.bytes = bytes) (hzs : z.cells.size = size) (hsz : 0 < size)
    (v : Value) (n : Nat) (xs : List Value) (hs : a.eval s = v) (hown : w.ownsRow base e size v n xs)
    (ad : Addr) (m c : Nat) (news : List Value) (hx : a.eval x = .slice (some ad) m c) (hl : news.length = m * size) (hnews : ∀ j u, news[j]? = some u → w.cell? (ad.add j) = some u) (h1 : ∀ u ∈ news, u.oneCell' = true)
    (hm : 0 < m) (h63 : n + m ≤ maxLen) (hbytes : (n + m) * bytes ≤ 140737488355328) (hbase : base ≤ w.heap.size) (H : Nat) (hH : w.heap.size = H)
    (h : ∀ g cap w', w'.ownsRow base e size (.slice (some ⟨g, 0, none⟩) (n + m) cap) (n + m) (xs ++ news) → w.grownBy w' v.ownBlock → (v.ownBlock = some g ∨ g = H) → g < w'.heap.size → wpList P ops Q rest (a.put o.dst (.slice (some ⟨g, 0, none⟩) (n + m) cap)) w') : wpList P ops Q (o :: rest) a w :=
  wpList_plain hgd fun _ hK => wp_append_lies w s x t ho base e i z size bytes ht hi hz hsize hby hzs hsz v n xs hs hown ad m c news hx hl hnews h1 hm h63 hbytes hbase H hH fun g cap w' h2 h3 h4 h5 => hK _ _ (h g cap w' h2 h3 h4 h5)
theorem lastN_put (qs : List (Int × Int)) (a v : Int) : lastN (qs ++ [(a, v)]) a 0 = v := by rw [lastN_app]; simp [lastN]
/-- What label leaves as it was. -/
def LabKept (w w' : World) (bO : Nat) (v : Value) : Prop := Below bO w w' ∧ w.heap.size ≤ w'.heap.size ∧ ∀ k cs T, BK w k cs T → bO + 2 < k → v.ownBlock ≠ some k → BK w' k cs T
set_option maxRecDepth 100000 in
set_option maxHeartbeats 4000000 in
theorem labelC (w : World) (b1 bO nA nN : Nat) (A : Int → Bool) (v : Value) (s : List IN × List (Int × Int)) (pos : Int) (h : DisSt w b1 bO nA nN A v s) (hk : KeysLt s.2 pos) (hp : Wf pos) (hl1 : s.1.length ≤ 200000) (hl2 : s.2.length ≤ 200000) (hn : nN ≤ 200000) :
    Calls Tryd.prog 39 #[.int .i64 pos, .pointer (some ⟨b1 + 1, 0, none⟩), .pointer (some ⟨bO + 2, 0, none⟩), .pointer (some ⟨bO, 0, none⟩)] w fun e w' => e = .returned (.tuple #[]) ∧ ∃ v', DisSt w' b1 bO nA (nN + 1) A v' (labD A pos s) ∧ LabKept w w' bO v ∧ (∀ j, v'.ownBlock = some j → v.ownBlock = some j ∨ w.heap.size ≤ j) := by
  have hlk := h.ma.look hp
  have hlt := h.lt
  cases hA : A pos with
  | false =>
    rw [hA] at hlk
    obtain ⟨c0, c1, c2, c3⟩ := h.cells
    have hD : labD A pos s = s := by unfold labD; rw [if_neg (by rw [hA]; decide)]
    rw [hD]
    have H := Lib.hid (h.more (m := nN + 1) (by omega))
    clear h hA hD hk
    go_enter Tryd.func39, Tryd.ntmps39
    go_wp2
    go_end0
    exact ⟨rfl, _, H.out, ⟨Below.refl _ _, Nat.le_refl _, fun k cs T h1 _ _ => h1⟩, fun j hj => .inl hj⟩
  | true =>
    rw [hA] at hlk
    obtain ⟨L, qs⟩ := s
    have hD : labD A pos (L, qs) = (L ++ [⟨38, (qs.length : Int)⟩], qs ++ [(pos, (qs.length : Int))]) := by unfold labD; rw [if_pos hA]
    rw [hD]
    have hlen := fun ty => h.mn.len hk.1 ty
    obtain ⟨m, hm⟩ : ∃ m, qs.length = m := ⟨_, rfl⟩
    obtain ⟨p, hpL⟩ : ∃ p, L.length = p := ⟨_, rfl⟩
    have HPL := Lib.hid hpL
    simp only [hm] at hlen hl2 hD ⊢
    simp only [hpL] at hl1
    have hwm : Wf (m : Int) := by unfold Wf; omega
    have HWM := Lib.hid hwm
    obtain ⟨w1, hrun1, hn1, hg1⟩ := h.mn.update (by unfold maxLen; omega) hp hwm
    have h1 := h.num hg1 hn1
    have hlk2 := hn1.look hp
    rw [lastN_put] at hlk2
    have H1 := Lib.hid h1
    have HG1 := Lib.hid hg1
    obtain ⟨c0, c1, c2, c3⟩ := h.cells
    obtain ⟨d0, d1, d2, d3⟩ := h1.cells
    obtain ⟨va, vc, hv⟩ := ow_shape h.ow
    simp only [hpL] at hv
    subst hv
    have HO2 : Hid (w1.ownsRow (bO + 3) 37 2 (.slice va p vc) p ((L.map insC).flatten)) := Lib.hid (by have := h1.ow; unfold OwI at this; simp only [hpL] at this; exact this)
    have HLO := Lib.hid (fun j hj => ow_lo h.ow j hj)
    have HHI : Hid (∀ j, (Value.slice va p vc).ownBlock = some j → j < w.heap.size) := Lib.hid (fun j hj => (World.ownsRow.lt h.ow j hj).2)
    have hz1 := hg1.size
    have hbO := h.ko.lt
    have hbN := h.kn.lt
    obtain ⟨i0, hi, hz1', hz2', hz3'⟩ := info_parts Tryd.infoIns
    have hbd : p + 1 ≤ maxLen ∧ (p + 1) * 16 ≤ 140737488355328 := by unfold maxLen; omega
    obtain ⟨W2, hW2⟩ : ∃ W2, w1.alloc (.cells (insC ⟨38, (m : Int)⟩).toArray 37) = W2 := ⟨_, rfl⟩
    have HN2 : Hid (∀ j u, (insC ⟨38, (m : Int)⟩)[j]? = some u → W2.cell? ((⟨w1.heap.size, 0, none⟩ : Addr).add j) = some u) := Lib.hid (by rw [← hW2]; exact news_lit w1 _ _)
    have H2 : Hid (DisSt W2 b1 bO nA (nN + 1) A (.slice va p vc) (L, qs ++ [(pos, (m : Int))])) := Lib.hid (by rw [← hW2]; exact h1.below (bl_one w1 _))
    have HO3 : Hid (W2.ownsRow (bO + 3) 37 2 (.slice va p vc) p ((L.map insC).flatten)) := Lib.hid (by rw [← hW2]; exact ow_below HO2.out (bl_one w1 _))
    have hz2 : W2.heap.size = w1.heap.size + 1 := by rw [← hW2]; exact World.size_alloc _ _
    have HB2 : Hid (Below w1.heap.size w1 W2) := Lib.hid (by rw [← hW2]; exact bl_one w1 _)
    have HZ2 := Lib.hid hz2
    have hW2' : w1.alloc (.cells #[.int .i64 38, .int .i64 m] 37) = W2 := hW2
    clear h h1 hn1 hg1 hD hk hA hm hpL hwm hW2 hz2
    go_enter Tryd.func39, Tryd.ntmps39
    go_wp2_with (at_builtin; refine wpList_append_lies rfl _ _ 22 rfl (bO + 3) 37 i0 (.agg #[.int .i64 0, .int .i64 0]) 2 16 Tryd.underlying22 hi hz1' hz2' hz3' rfl (by decide) (.slice va p vc) p ((L.map insC).flatten) rfl HO3.out ⟨w1.heap.size, 0, none⟩ 1 1 (insC ⟨38, (m : Int)⟩) rfl rfl HN2.out (insC_one _) (by decide) hbd.1 hbd.2 (by have := HZ2.out; omega) _ rfl ?_; intro ga gc w5 hown5 hgrow5 hat5 _; have HO5 := Lib.hid (OwI.snoc (L := L) (x := ⟨38, (m : Int)⟩) (by rw [HPL.out]; exact hown5)); have H5 := Lib.hid (H2.out.app hgrow5 HO5.out); have e0 := (H2.out.ko.kept hgrow5 (fun j hj => by have := HLO.out j hj; omega)).cell 0; have e1 := (H2.out.ko.kept hgrow5 (fun j hj => by have := HLO.out j hj; omega)).fr 0; simp only [List.getElem?_cons_zero] at e0; have HG5 := Lib.hid hgrow5; have HAT := Lib.hid hat5; clear hown5 hgrow5 hat5)
    go_end0
    refine ⟨rfl, _, H5.out, ⟨?_, ?_, fun k cs T hb1 hb2 hb3 => ?_⟩, fun j hj => ?_⟩
    · have b1 : Below bO w w1 := (Below.refl bO w).grown HG1.out (by omega) (fun j hj => by cases hj; omega)
      have b2 : Below bO w W2 := b1.trans (HB2.out.mono (by omega))
      have b3 : Below bO w w5 := b2.grown HG5.out (by have := HZ2.out; omega) (fun j hj => by have := HLO.out j hj; omega)
      exact b3.setCell (p := ⟨bO, 0, none⟩) (Nat.le_refl _) _
    · have := HG5.out.size
      have := HZ2.out
      simp [World.setCell]; omega
    · have hk1 := hb1.lt
      refine BK.setO (BK.kept (BK.below (hb1.kept HG1.out (fun j hj => by cases hj; omega)) HB2.out) HG5.out (fun j hj e => ?_)) (by omega) _ _
      subst e
      exact hb3 hj
    · have e : ga = j := by simpa [Value.ownBlock] using hj
      subst e
      rcases HAT.out with h | h
      · exact .inl h
      · right
        have := HZ2.out
        omega
end Go.Proofs.YtbcpopakdlplgaaDoor
namespace Go.Proofs.YtbcpopakdlplgaaDoor
open Go.RowKit Go.PlainAid Go.Maps
set_option linter.unusedVariables false
set_option linter.unusedSimpArgs false

/-- Whole numbers that the call owns. -/
def OwN (w : World) (base : Nat) (v : Value) (L : List Int) : Prop := w.ownsRow base 3 1 v L.length (L.map (Value.int .i64))
theorem OwN.nil (w : World) (base : Nat) : OwN w base (.slice none 0 0) [] := World.ownsRow_nil _ _ _ _
theorem OwN.snoc {w : World} {base : Nat} {v : Value} {L : List Int} {x : Int} (h : w.ownsRow base 3 1 v (L.length + 1) (L.map (Value.int .i64) ++ [.int .i64 x])) : OwN w base v (L ++ [x]) := by
  unfold OwN; simpa using h
theorem OwN.at {w : World} {base : Nat} {v : Value} {L : List Int} (h : OwN w base v L) {n : Nat} (hn : L.length = n) (i : Nat) (hi : i < n) (x : Int) (hx : L[i]? = some x) :
    ∃ g c, v = .slice (some ⟨g, 0, none⟩) n c ∧ base ≤ g ∧ g < w.heap.size ∧ w.cell? ⟨g, i, none⟩ = some (.int .i64 x) := by
  subst hn
  have h' := h
  unfold OwN at h'
  rcases h'.2 with ⟨_, h0⟩ | ⟨g, cap, cur, hv, hbg, hg, _⟩
  · omega
  · subst hv
    have hc := World.ownsRow.cellAt h' i (by omega)
    rw [List.getElem?_map, hx] at hc
    exact ⟨g, cap, rfl, hbg, lt_of_block hg, by simpa using hc⟩
/-- An instruction of an owned row. -/
theorem OwI.at {w : World} {base : Nat} {v : Value} {L : List IN} (h : OwI w base v L) {n : Nat} (hn : L.length = n) (i : Nat) (hi : i < n) (x : IN) (hx : L[i]? = some x) :
    ∃ g c, v = .slice (some ⟨g, 0, none⟩) n c ∧ base ≤ g ∧ g < w.heap.size ∧ w.cell? ⟨g, i * 2, none⟩ = some (.int .i64 x.op) ∧ w.cell? ⟨g, i * 2 + 1, none⟩ = some (.int .i64 x.arg) := by
  subst hn
  obtain ⟨g, cap, hv, h1, h2⟩ := h.shape (by omega)
  subst hv
  obtain ⟨c0, c1, _⟩ := h.cells rfl i hi
  have e : L[i] = x := by rw [List.getElem?_eq_getElem hi] at hx; exact Option.some.inj hx
  rw [e] at c0 c1
  exact ⟨g, cap, rfl, h1, h2, c0, c1⟩
def ApartV (u v : Value) : Prop := ∀ j, u.ownBlock = some j → v.ownBlock ≠ some j
/-- What Disassemble answers. -/
def DisOut (w : World) (r : Int ⊕ List IN) (e : Ending) (w' : World) : Prop := Below w.heap.size w w' ∧ match r with
  | .inl x => e = .returned (.tuple #[.slice none 0 0, .int .i64 x])
  | .inr L => ∃ v', e = .returned (.tuple #[v', .int .i64 0]) ∧ OwI w' w.heap.size v' L
theorem disOut_err {w w' : World} {r : Int ⊕ List IN} {x : Int} (h : r = .inl x) (hb : Below w.heap.size w w') : DisOut w r (.returned (.tuple #[.slice none 0 0, .int .i64 x])) w' := by
  subst h; exact ⟨hb, rfl⟩
theorem disOut_ok {w w' : World} {r : Int ⊕ List IN} {L : List IN} {v : Value} (h : r = .inr L) (hb : Below w.heap.size w w') (ho : OwI w' w.heap.size v L) : DisOut w r (.returned (.tuple #[v, .int .i64 0])) w' := by
  subst h; exact ⟨hb, v, rfl, ho⟩
/-- Rows that something else does not touch. -/
theorem ow_apart {w w' : World} {base : Nat} {e : TypeId} {k : Nat} {v : Value} {n : Nat} {xs : List Value} {row : Option Nat} (h : w.ownsRow base e k v n xs) (hg : w.grownBy w' row) (hr : ∀ j, row = some j → v.ownBlock ≠ some j) : w'.ownsRow base e k v n xs := by
  refine h.kept hg ?_
  cases hv : v.ownBlock with
  | none => exact .inl rfl
  | some b => right; intro e; exact hr b e.symm hv
theorem dec_err_pos {b : List UInt8} {e : Int} (h : decI b = .inl e) : e ≠ 0 := by
  cases b with
  | nil => simp [decI] at h; omega
  | cons c t =>
    rw [decI] at h
    split at h
    · have := Sum.inl.inj h; omega
    · split at h
      · have := Sum.inl.inj h; omega
      · split at h
        · have := Sum.inl.inj h; omega
        · cases h
/-- The state of the first loop: what has been read. -/
structure RdSt (w wr : World) (b : List UInt8) (n : Nat) (ps : List (IN × Nat)) (at_ f : Nat) (v4 v5 : Value) : Prop where
  eq : preA ps (decAll f (b.drop at_)) = decAll n b
  pos : bpos ps ps.length = at_
  fuel : n ≤ f + at_
  cnt : ps.length ≤ at_
  one : ∀ p ∈ ps, 1 ≤ p.2 ∧ InW p.1 ∧ -32768 ≤ p.1.arg ∧ p.1.arg ≤ 32767
  met : MetB wr w.heap.size (ps.length + 1) (begK n ps)
  o4 : OwI wr (w.heap.size + 1) v4 (ps.map (·.1))
  o5 : OwN wr (w.heap.size + 1) v5 (endsGo ps 0)
  ap : ApartV v4 v5
  bl : Below w.heap.size w wr
  sz : w.heap.size + 1 ≤ wr.heap.size
theorem begK_zero {m : Nat} (n : Nat) (w : World) (h : MetB w m 1 (fun x => if x = (n : Int) then true else false)) : MetB w m 1 (begK n []) := h.to fun a _ => by
  unfold begK; by_cases e : a = (n : Int) <;> simp [e, begsGo]
theorem rd_step {w wr w2 w4 w6 w8 : World} {b : List UInt8} {n k f m z p g6 c6 g8 c8 : Nat} {ps : List (IN × Nat)} {x : IN} {v4 v5 : Value} {o2 o4 o6 : Obj} (HS : RdSt w wr b n ps k f v4 v5)
    (hb2 : Below wr.heap.size wr w2) (hg4 : (w2.alloc o2).grownBy w4 (some w.heap.size)) (hm4 : MetB w4 w.heap.size (ps.length + 1 + 1) (fun y => if y = (k : Int) then true else begK n ps y))
    (ho6 : OwI w6 (w.heap.size + 1) (.slice (some ⟨g6, 0, none⟩) (p + 1) c6) (ps.map (·.1) ++ [x])) (hg6 : (w4.alloc o4).grownBy w6 v4.ownBlock) (hat6 : v4.ownBlock = some g6 ∨ g6 = (w4.alloc o4).heap.size) (hlt6 : g6 < w6.heap.size)
    (hp : ps.length = p) (ho8 : w8.ownsRow (w.heap.size + 1) 3 1 (.slice (some ⟨g8, 0, none⟩) (p + 1) c8) (p + 1) ((endsGo ps 0).map (Value.int .i64) ++ [.int .i64 (z : Int)])) (hg8 : (w6.alloc o6).grownBy w8 v5.ownBlock)
    (hat8 : v5.ownBlock = some g8 ∨ g8 = (w6.alloc o6).heap.size) (he : preA (ps ++ [(x, m)]) (decAll (f - 1) (b.drop z)) = decAll n b ∧ n ≤ (f - 1) + z) (hz : k + m = z) (hm1 : 1 ≤ m) (hwx : InW x) (har : -32768 ≤ x.arg ∧ x.arg ≤ 32767) :
    RdSt w w8 b n (ps ++ [(x, m)]) z (f - 1) (.slice (some ⟨g6, 0, none⟩) (p + 1) c6) (.slice (some ⟨g8, 0, none⟩) (p + 1) c8) := by
  have hsz := HS.sz
  have s2 := hb2.size
  have s4 := hg4.size
  have s6 := hg6.size
  have s8 := hg8.size
  rw [World.size_alloc] at s4 s6 s8
  have hp5 : ∀ j, v5.ownBlock = some j → w.heap.size + 1 ≤ j := fun j hj => ow_lo HS.o5 j hj
  have hp4 : ∀ j, v4.ownBlock = some j → w.heap.size + 1 ≤ j := fun j hj => ow_lo HS.o4 j hj
  have hh5 : ∀ j, v5.ownBlock = some j → j < wr.heap.size := fun j hj => (World.ownsRow.lt HS.o5 j hj).2
  have hpos := HS.pos
  have b1 : Below w.heap.size w w4 := (bl_a (bl_thenA HS.bl hb2) o2).grown hg4 (bl_a (bl_thenA HS.bl hb2) o2).size (fun j hj => by cases hj; exact Nat.le_refl _)
  have b2 : Below w.heap.size w w6 := (bl_a b1 o4).grown hg6 (bl_a b1 o4).size (fun j hj => by have := hp4 j hj; omega)
  have b3 : Below w.heap.size w w8 := (bl_a b2 o6).grown hg8 (bl_a b2 o6).size (fun j hj => by have := hp5 j hj; omega)
  have hm6 := (hm4.below (bl_one w4 o4)).kept hg6 (fun e => by have := hp4 _ e; omega)
  have hm8 := (hm6.below (bl_one w6 o6)).kept hg8 (fun e => by have := hp5 _ e; omega)
  refine { eq := he.1, pos := by rw [bpos_snoc, hpos]; exact hz, fuel := he.2, cnt := ?_, one := ?_, met := ?_, o4 := ?_, o5 := ?_, ap := ?_, bl := b3, sz := by omega }
  · have := HS.cnt; simp; omega
  · intro q hq
    rcases List.mem_append.1 hq with h | h
    · exact HS.one q h
    · simp at h; subst h; exact ⟨hm1, hwx, har⟩
  · rw [List.length_append, List.length_singleton]
    exact hm8.to fun a _ => by rw [begK_snoc, hpos]
  · rw [List.map_append]
    refine ow_apart (ow_below ho6 (bl_one w6 o6)) hg8 (fun j hj e => ?_)
    have e' : g6 = j := by simpa [Value.ownBlock] using e
    subst e'
    rcases hat6 with h | h
    · exact HS.ap _ h hj
    · rw [World.size_alloc] at h
      have := hh5 _ hj; omega
  · rw [ends_snoc, Nat.zero_add, hpos, hz]
    exact OwN.snoc (by rw [ends_len, hp]; exact ho8)
  · intro j hj e
    have e1 : g6 = j := by simpa [Value.ownBlock] using hj
    have e2 : g8 = j := by simpa [Value.ownBlock] using e
    subst e1
    rcases hat8 with h | h
    · rw [e2] at h
      rcases hat6 with h' | h'
      · exact HS.ap _ h' h
      · rw [World.size_alloc] at h'
        have := hh5 _ h; omega
    · rw [World.size_alloc] at h; omega
/-- The state of the second loop: which places are asked for. -/
structure AskSt (w wz : World) (n b1 : Nat) (ps : List (IN × Nat)) (v4 v5 : Value) (k : Nat) : Prop where
  met : MetB wz w.heap.size (ps.length + 1) (begK n ps)
  o4 : OwI wz (w.heap.size + 1) v4 (ps.map (·.1))
  o5 : OwN wz (w.heap.size + 1) v5 (endsGo ps 0)
  ka : BK wz (b1 + 1) [.map (some b1)] 42
  ma : MetB wz b1 k (askD ps k)
  bl : Below w.heap.size w wz
  ok : ∀ i (h : i < ps.length), i < k → isJ ps[i].1 = true → (findB ps (tgD ps i ps[i])).isSome = true
  l4 : ∀ j, v4.ownBlock = some j → j < b1
  l5 : ∀ j, v5.ownBlock = some j → j < b1
  b0 : w.heap.size < b1
theorem AskSt.below {w wz w' : World} {n b1 k : Nat} {ps : List (IN × Nat)} {v4 v5 : Value} (h : AskSt w wz n b1 ps v4 v5 k) (hb : Below wz.heap.size wz w') : AskSt w w' n b1 ps v4 v5 k :=
  { h with met := h.met.below hb, o4 := ow_below h.o4 hb, o5 := ow_below h.o5 hb, ka := h.ka.below hb, ma := h.ma.below hb, bl := bl_thenA h.bl hb }
theorem AskSt.no {w wz : World} {n b1 k : Nat} {ps : List (IN × Nat)} {v4 v5 : Value} (h : AskSt w wz n b1 ps v4 v5 k) (hk : k < ps.length) (hj : isJ ps[k].1 = false) : AskSt w wz n b1 ps v4 v5 (k + 1) :=
  { h with
    ma := by obtain ⟨D, h1, h2, h3⟩ := h.ma; exact ⟨D, h1.mono (by omega), h2, fun a ha => by rw [h3 a ha, askD_no hk hj]⟩
    ok := fun i hi hik hji => by
      by_cases e : i = k
      · subst e; rw [hj] at hji; cases hji
      · exact h.ok i hi (by omega) hji }
theorem AskSt.yes {w wz w' : World} {n b1 k : Nat} {ps : List (IN × Nat)} {v4 v5 : Value} {tg : Int} (h : AskSt w wz n b1 ps v4 v5 k) (hk : k < ps.length) (hj : isJ ps[k].1 = true) (htg : tgD ps k ps[k] = tg) (hf : (findB ps tg).isSome = true)
    (hg : wz.grownBy w' (some b1)) (hm : MetB w' b1 (k + 1) (fun x => if x = tg then true else askD ps k x)) : AskSt w w' n b1 ps v4 v5 (k + 1) :=
  have hb0 := h.b0
  { h with
    met := h.met.kept hg (by simp; omega)
    o4 := ow_apart h.o4 hg (fun j hj e => by cases hj; have := h.l4 _ e; omega)
    o5 := ow_apart h.o5 hg (fun j hj e => by cases hj; have := h.l5 _ e; omega)
    ka := h.ka.kept hg (fun j hj => by cases hj; omega)
    ma := hm.to fun a _ => by rw [askD_yes hk hj, htg]
    bl := h.bl.grown hg h.bl.size (fun j hj => by cases hj; omega)
    ok := fun i hi hik hji => by
      by_cases e : i = k
      · subst e; rw [htg]; exact hf
      · exact h.ok i hi (by omega) hji }
theorem ask_start {w wr : World} {b : List UInt8} {n k f : Nat} {ps : List (IN × Nat)} {v4 v5 : Value} (HS : RdSt w wr b n ps k f v4 v5) : AskSt w ((wr.alloc (.map #[] 0)).alloc (.cells #[.map (some wr.heap.size)] 42)) n wr.heap.size ps v4 v5 0 :=
  have h2 := bl_two wr (.map #[] 0) (.cells #[.map (some wr.heap.size)] 42)
  { met := HS.met.below h2
    o4 := ow_below HS.o4 h2
    o5 := ow_below HS.o5 h2
    ka := by have := BK.new (wr.alloc (.map #[] 0)) [.map (some wr.heap.size)] 42; rw [World.size_alloc] at this; exact this
    ma := ((MetB.new wr).below (bl_one _ _)).to fun a _ => by unfold askD; rfl
    bl := bl_thenA HS.bl h2
    ok := fun i h h0 => by omega
    l4 := fun j hj => (World.ownsRow.lt HS.o4 j hj).2
    l5 := fun j hj => (World.ownsRow.lt HS.o5 j hj).2
    b0 := HS.sz }
theorem bpos_le (ps : List (IN × Nat)) : ∀ i, i ≤ ps.length → bpos ps i ≤ bpos ps ps.length := by
  intro i hi
  induction ps generalizing i with
  | nil => simp at hi; subst hi; exact Nat.le_refl _
  | cons p t ih =>
    cases i with
    | zero => show 0 ≤ _; omega
    | succ i => show p.2 + bpos t i ≤ p.2 + bpos t t.length; have := ih i (by simpa using hi); omega
/-- The state of the third loop: what has been laid. -/
structure LaySt (w wz : World) (n b1 bO p : Nat) (ps : List (IN × Nat)) (v4 v5 v : Value) (k : Nat) (s : List IN × List (Int × Int)) : Prop where
  ds : DisSt wz b1 bO p k (askPos ps ps 0) v s
  o4 : OwI wz (w.heap.size + 1) v4 (ps.map (·.1))
  o5 : OwN wz (w.heap.size + 1) v5 (endsGo ps 0)
  bl : Below w.heap.size w wz
  eq : DisEq ps k s
  keys : KeysLt s.2 (bpos ps k)
  inw : ∀ x ∈ s.1, InW x
  l1 : s.1.length ≤ 2 * k
  l2 : s.2.length ≤ k
  l4 : ∀ j, v4.ownBlock = some j → j < b1
  l5 : ∀ j, v5.ownBlock = some j → j < b1
  b0 : w.heap.size < b1
theorem LaySt.below {w wz w' : World} {n b1 bO p k : Nat} {ps : List (IN × Nat)} {v4 v5 v : Value} {s : List IN × List (Int × Int)} (h : LaySt w wz n b1 bO p ps v4 v5 v k s) (hb : Below wz.heap.size wz w') : LaySt w w' n b1 bO p ps v4 v5 v k s :=
  { h with ds := h.ds.below hb, o4 := ow_below h.o4 hb, o5 := ow_below h.o5 hb, bl := bl_thenA h.bl hb }
theorem dis_start (wr : World) (b1 p : Nat) (A : Int → Bool) (hk : BK wr (b1 + 1) [.map (some b1)] 42) (hm : MetB wr b1 p A) :
    DisSt (((wr.alloc (.cells #[.slice none 0 0] 22)).alloc (.map #[] 0)).alloc (.cells #[.map (some (wr.heap.size + 1))] 44)) b1 wr.heap.size p 0 A (.slice none 0 0) ([], []) :=
  have h3 := bl_a (bl_two wr (.cells #[.slice none 0 0] 22) (.map #[] 0)) (.cells #[.map (some (wr.heap.size + 1))] 44)
  { ka := hk.below h3
    ma := hm.below h3
    ko := ((BK.new wr [.slice none 0 0] 22).alloc _).alloc _
    ow := OwI.nil _ _
    kn := by
      have := BK.new ((wr.alloc (.cells #[.slice none 0 0] 22)).alloc (.map #[] 0)) [.map (some (wr.heap.size + 1))] 44
      rw [World.size_alloc, World.size_alloc] at this; exact this
    mn := by
      have := (NumIs.new (wr.alloc (.cells #[.slice none 0 0] 22))).below (bl_one _ (.cells #[.map (some (wr.heap.size + 1))] 44))
      rw [World.size_alloc] at this; exact this
    lt := hk.lt }
theorem lay_start {w wr : World} {n b1 p : Nat} {ps : List (IN × Nat)} {v4 v5 : Value} (hp : ps.length = p) (HS : AskSt w wr n b1 ps v4 v5 p) :
    LaySt w (((wr.alloc (.cells #[.slice none 0 0] 22)).alloc (.map #[] 0)).alloc (.cells #[.map (some (wr.heap.size + 1))] 44)) n b1 wr.heap.size p ps v4 v5 (.slice none 0 0) 0 ([], []) :=
  have h3 := bl_a (bl_two wr (.cells #[.slice none 0 0] 22) (.map #[] 0)) (.cells #[.map (some (wr.heap.size + 1))] 44)
  { ds := dis_start wr b1 p _ HS.ka (HS.ma.to fun a _ => by unfold askD; rw [← hp, List.take_length])
    o4 := ow_below HS.o4 h3
    o5 := ow_below HS.o5 h3
    bl := bl_thenA HS.bl h3
    eq := disEq_zero ps
    keys := ⟨by simp, fun q h => by cases h⟩
    inw := fun x h => by cases h
    l1 := by simp
    l2 := by simp
    l4 := HS.l4
    l5 := HS.l5
    b0 := HS.b0 }
/-- A round of the third loop. -/
theorem lay_step {w w6 : World} {n b1 bO p k e : Nat} {ps : List (IN × Nat)} {v4 v5 v v6 : Value} {s : List IN × List (Int × Int)} {x : IN} {wz : World} (HS : LaySt w wz n b1 bO p ps v4 v5 v k s) (hk : k < ps.length) (hx : x = xD ps[k] (e : Int)) (he : bpos ps (k + 1) = e) (hm : 1 ≤ ps[k].2)
    (hd : DisSt w6 b1 bO p (k + 1) (askPos ps ps 0) v6 ((labD (askPos ps ps 0) (bpos ps k) s).1 ++ [x], (labD (askPos ps ps 0) (bpos ps k) s).2)) (ho4 : OwI w6 (w.heap.size + 1) v4 (ps.map (·.1))) (ho5 : OwN w6 (w.heap.size + 1) v5 (endsGo ps 0)) (hb : Below w.heap.size w w6) (hxw : InW x) (hkw : Wf (s.2.length : Int)) :
    LaySt w w6 n b1 bO p ps v4 v5 v6 (k + 1) ((labD (askPos ps ps 0) (bpos ps k) s).1 ++ [x], (labD (askPos ps ps 0) (bpos ps k) s).2) := by
  have hl := lab_len1 (askPos ps ps 0) (bpos ps k) s
  have h1 := HS.l1
  have h2 := HS.l2
  refine { ds := hd, o4 := ho4, o5 := ho5, bl := hb, eq := ?_, keys := ?_, inw := ?_, l1 := ?_, l2 := ?_, l4 := HS.l4, l5 := HS.l5, b0 := HS.b0 }
  · have := disEq_step hk HS.eq
    rw [he, ← hx] at this; exact this
  · refine keys_lab HS.keys ?_
    rw [bpos_succ ps k hk]; omega
  · intro y hy
    rcases List.mem_append.1 hy with h | h
    · unfold labD at h
      split at h
      · rcases List.mem_append.1 h with h | h
        · exact HS.inw y h
        · simp at h; subst h; exact ⟨by unfold Wf; simp, hkw⟩
      · exact HS.inw y h
    · simp at h; subst h; exact hxw
  · simp; omega
  · simp; omega
theorem DisSt.put {w : World} {b1 bO nA nN g n c : Nat} {A : Int → Bool} {L : List IN} {qs : List (Int × Int)} (h : DisSt w b1 bO nA nN A (.slice (some ⟨g, 0, none⟩) n c) (L, qs)) (hn : L.length = n) (i : Nat) (hi : i < L.length) (a : Int) :
    DisSt (w.setCell ⟨g, i * 2 + 1, none⟩ (.int .i64 a)) b1 bO nA nN A (.slice (some ⟨g, 0, none⟩) n c) (L.set i ⟨L[i].op, a⟩, qs) :=
  have hl := h.lt
  have hlo : bO + 3 ≤ g := ow_lo h.ow g (by simp [Value.ownBlock])
  { lt := h.lt
    ka := h.ka.setO (by omega) _ _
    ma := h.ma.kept (gr_set _ _ _ _) (by simp; omega)
    ko := h.ko.setO (by omega) _ _
    ow := h.ow.put hn i hi a
    kn := h.kn.setO (by omega) _ _
    mn := h.mn.kept (gr_set _ _ _ _) (by simp; omega) }
theorem ow_block {w w' : World} {base : Nat} {e : TypeId} {k : Nat} {v : Value} {n : Nat} {xs : List Value} (h : w.ownsRow base e k v n xs) (hb : ∀ j, v.ownBlock = some j → w'.heap[j]? = w.heap[j]?) : w'.ownsRow base e k v n xs := by
  refine ⟨h.1, ?_⟩
  rcases h.2 with h0 | ⟨g, cap, cur, rfl, hbg, hg, h1⟩
  · exact .inl h0
  · exact .inr ⟨g, cap, cur, rfl, hbg, (hb g (by simp [Value.ownBlock])).trans hg, h1⟩
theorem lay_step2 {w w6 : World} {n b1 bO p k e : Nat} {ps : List (IN × Nat)} {v4 v5 v v6 : Value} {s s2 : List IN × List (Int × Int)} {x : IN} {wz : World} (HS : LaySt w wz n b1 bO p ps v4 v5 v k s) (hk : k < ps.length) (hx : x = xD ps[k] (e : Int)) (he : bpos ps (k + 1) = e) (hm : 1 ≤ ps[k].2)
    (hs2 : labD (askPos ps ps 0) (bpos ps k) s = s2) (hd : DisSt w6 b1 bO p (k + 1) (askPos ps ps 0) v6 (s2.1 ++ [x], s2.2)) (hb : Below bO wz w6) (hxw : InW x) (hkw : Wf (s.2.length : Int)) :
    LaySt w w6 n b1 bO p ps v4 v5 v6 (k + 1) (s2.1 ++ [x], s2.2) := by
  subst hs2
  have hlt := HS.ds.lt
  have hb0 := HS.b0
  refine lay_step HS hk hx he hm hd (ow_block HS.o4 fun j hj => hb.block j (by have := HS.l4 j hj; omega)) (ow_block HS.o5 fun j hj => hb.block j (by have := HS.l5 j hj; omega)) (HS.bl.trans (hb.mono (by omega))) hxw hkw
end Go.Proofs.YtbcpopakdlplgaaDoor
