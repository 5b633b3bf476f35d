/- slices.AppendSeq and slices.Collect over an iterator that makes memory and reads memory between its rounds. -/
import Derived.Test.YtjggklfegcejhaaGreatRange
import Derived.Deep.AppendLies
import Derived.Maps.AppendAt
namespace Go.Proofs.YtjggklfegcejhaaGreat
open Go.RowKit Go.Shelf
set_option linter.unusedVariables false
set_option linter.unusedSimpArgs false
attribute [local go_sem] Oper.semAt_some

theorem BK.isCells {w : World} {k : Nat} {cs : List Value} {T : TypeId} (h : BK w k cs T) : ∀ o, w.heap[k]? = some o → o.isCells = true := fun o ho => by
  have := ho.symm.trans h
  cases this; rfl
/-- The block in which the slice lies that the box B holds. -/
def ptrW (W : World) (B : Nat) : Option Nat := match W.cell? ⟨B, 0, none⟩ with
  | some (.slice (some ad) _ _) => some ad.block
  | _ => none
theorem ptr_kept {W W' : World} {B : Nat} (h : W'.heap[B]? = W.heap[B]?) : ptrW W' B = ptrW W B := by
  unfold ptrW; rw [World.cell?_of_block (a := ⟨B, 0, none⟩) h]
theorem boxed_ptr {W : World} {B : Nat} {t : TypeId} {a : Option Addr} {n c : Nat} (h : Boxed W B t (.slice a n c)) : ptrW W B = a.map (·.block) := by
  unfold ptrW; rw [h.cell]; cases a <;> rfl
/-- A step that turns the box B and the slice's own block alone; the slice lies where it lay, or in a new block. -/
structure KpB (B : Nat) (W W' : World) : Prop where
  size : W.heap.size ≤ W'.heap.size
  blk : ∀ b, b < W.heap.size → (∀ o, W.heap[b]? = some o → o.isCells = true) → b ≠ B → ptrW W B ≠ some b → W'.heap[b]? = W.heap[b]?
  ptr : ptrW W' B = ptrW W B ∨ ∃ g, ptrW W' B = some g ∧ W.heap.size ≤ g ∧ g < W'.heap.size
theorem KpB.trans {B : Nat} {X Y Z : World} (h : KpB B X Y) (k : KpB B Y Z) : KpB B X Z where
  size := Nat.le_trans h.size k.size
  blk b hb hc hn hp := by
    have e := h.blk b hb hc hn hp
    rw [k.blk b (Nat.lt_of_lt_of_le hb h.size) (fun o ho => hc o (e ▸ ho)) hn ?_, e]
    rcases h.ptr with h1 | ⟨g, h1, h2, _⟩
    · rw [h1]; exact hp
    · rw [h1]; intro e'; have := Option.some.inj e'; omega
  ptr := by
    rcases k.ptr with h1 | ⟨g, h1, h2, h3⟩
    · rcases h.ptr with h4 | ⟨g, h4, h5, h6⟩
      · exact .inl (h1.trans h4)
      · exact .inr ⟨g, h1.trans h4, h5, Nat.lt_of_lt_of_le h6 k.size⟩
    · exact .inr ⟨g, h1, Nat.le_trans h.size h2, h3⟩
/-- What a round keeps: all below n, and all but the box and its slice. -/
def KpG (n B : Nat) (W W' : World) : Prop := Below n W W' ∧ KpB B W W'
theorem KpG.trans {n B : Nat} {X Y Z : World} (h : KpG n B X Y) (k : KpG n B Y Z) : KpG n B X Z := ⟨h.1.trans k.1, h.2.trans k.2⟩
theorem KpB.put {B : Nat} {W : World} {l : Nat} {o o' : Obj} (hB : l ≠ B) (h : W.heap[l]? = some o) (hc : o.isCells = false) : KpB B W (W.putObj l o') where
  size := by simp
  blk b hb hcs hn hp := World.putObj_heap_other (fun e => by subst e; rw [hcs o h] at hc; cases hc)
  ptr := .inl (ptr_kept (World.putObj_heap_other (fun e => hB e.symm)))
theorem KpG.put {n B : Nat} {w W : World} {l : Nat} {o o' : Obj} (hn : n ≤ w.heap.size) (hB : B < w.heap.size) (hl : w.heap.size ≤ l) (h : W.heap[l]? = some o) (hc : o.isCells = false) : KpG n B W (W.putObj l o') :=
  ⟨(Below.refl n W).grown (grownBy_putObj' W l o') (by have := (Array.getElem?_eq_some_iff.1 h).1; omega) (fun k e => by cases e; omega), KpB.put (by omega) h hc⟩
/-- What makes memory alone is such a step. -/
theorem Makes.kpB {B : Nat} {W W' : World} (h : Makes W W') (hB : B < W.heap.size) : KpB B W W' where
  size := Below.size h
  blk b hb _ _ _ := Below.block h b hb
  ptr := .inl (ptr_kept (Below.block h B hB))

theorem SeqA.weaker {α : Type} {P : Program} {g : Nat} {lb : Array Value} {encs : α → Array Value} {A Kp Kq : World → World → Prop} {xs : List α} {w : World} (h : SeqA P g lb encs A Kp xs w) (hk : ∀ X Y, Kq X Y → Kp X Y) : SeqA P g lb encs A Kq xs w :=
  fun l J Jx W hW hJ hJx hR h0 => h l J Jx W hW hJ hJx (fun m pre x W1 hj hp => YieldAt.mono (hR m pre x W1 hj hp) fun e W' hr => hr.elim (fun ⟨a, b, c⟩ => .inl ⟨a, b, hk _ _ c⟩) .inr) h0
theorem SeqA.later {α : Type} {P : Program} {g : Nat} {lb : Array Value} {encs : α → Array Value} {A Kp : World → World → Prop} {xs : List α} {w w' : World} (h : SeqA P g lb encs A Kp xs w) (hb : Below w.heap.size w w') : SeqA P g lb encs A Kp xs w' :=
  fun l J Jx W hW => h l J Jx W (hb.trans (hW.mono hb.size))

theorem wpListIn_append_lies {F : Fence} {n : Nat} {P : Program} (w : World) {ops : Array Oper} {rest : List Oper} {o : Oper} {a : Act} {Q : Exit → Act → World → Prop}
    (hg : o.guard = none) (s x : Operand) (t : TypeId) (hop : o.op = Op.call { callee := Callee.builtin Builtin.append, args := #[s, x], argTypes := #[t, t] })
    (base : Nat) (e : TypeId) (i : TypeInfo) (z : Value) (size bytes : Nat) (h1 : P.underlying t = some (.slice e)) (h2 : P.info? e = some i) (h3 : i.zero = some z) (h4 : i.size = size) (h5 : i.bytes = bytes) (h6 : z.cells.size = size) (h7 : 0 < size)
    (v : Value) (k : Nat) (xs : List Value) (hs : a.eval s = v) (hown : w.ownsRow base e size v k xs) (ad : Addr) (m c : Nat) (news : List Value) (hx : a.eval x = .slice (some ad) m c) (hn : news.length = m * size)
    (hc : ∀ j u, news[j]? = some u → w.cell? (ad.add j) = some u) (h1c : ∀ u ∈ news, u.oneCell' = true) (hm : 0 < m) (b1 : k + m ≤ maxLen) (b2 : (k + m) * bytes ≤ 140737488355328) (b3 : base ≤ w.heap.size)
    (hK : ∀ g cap w', w'.ownsRow base e size (.slice (some ⟨g, 0, none⟩) (k + m) cap) (k + m) (xs ++ news) → w.grownBy w' v.ownBlock → (v.ownBlock = some g ∨ g = w.heap.size) → g < w'.heap.size → wpListIn F n P ops Q rest (a.put o.dst (.slice (some ⟨g, 0, none⟩) (k + m) cap)) w') :
    wpListIn F n P ops Q (o :: rest) a w := by
  refine wpListIn_plain hg fun K hK' => ?_
  obtain ⟨g, cap, w', hrun, r1, r2, r3, r4⟩ := run_append_lies (P := P) w t o.type base e i z size bytes h1 h2 h3 h4 h5 h6 h7 v k xs hown ad m c news hn hc h1c hm b1 b2 b3 _ rfl
  unfold Oper.wpIn
  refine ⟨?_, ?_⟩
  · simp [Oper.about, hop, resolve, Target.leads, Sem.run_pure]
  · rw [Oper.semAt_plain F _ _ (by rw [hop]; intro c hc'; cases hc')]
    simp [execOp, hop, resolve, invoke, builtin, hs, hx, hrun, Result.andThen]
    exact hK' _ _ (hK g cap w' r1 r2 r3 r4)

theorem kpB_append {B : Nat} {t : TypeId} {W w1 : World} {a : Option Addr} {n c g n' c' : Nat} {tmp : Obj} (hv : Boxed W B t (.slice a n c)) (hg : (W.alloc tmp).grownBy w1 (Value.slice a n c).ownBlock)
    (hat : (Value.slice a n c).ownBlock = some g ∨ g = (W.alloc tmp).heap.size) (hlt : g < w1.heap.size) (hv2 : Boxed (w1.setCell ⟨B, 0, none⟩ (.slice (some ⟨g, 0, none⟩) n' c')) B t (.slice (some ⟨g, 0, none⟩) n' c')) :
    KpB B W (w1.setCell ⟨B, 0, none⟩ (.slice (some ⟨g, 0, none⟩) n' c')) where
  size := by have := hg.size; rw [World.size_alloc] at this; simp [World.setCell]; omega
  blk b hb hc hn hp := by
    rw [Below.heap_setCell _ _ _ _ (by simpa using hn)]
    refine (hg.block b (by rw [World.size_alloc]; omega) (fun e => hp ?_)).trans (Below.heap_alloc _ _ _ hb)
    rw [boxed_ptr hv]
    cases a with
    | none => simp [Value.ownBlock] at e
    | some ad => simpa [Value.ownBlock] using e.symm
  ptr := by
    rw [boxed_ptr hv2, boxed_ptr hv]
    rcases hat with h | h
    · left
      cases a with
      | none => simp [Value.ownBlock] at h
      | some ad => simpa [Value.ownBlock] using h.symm
    · refine .inr ⟨g, rfl, by rw [h, World.size_alloc]; omega, ?_⟩
      simp [World.setCell]; omega
theorem info_int : (Tryz.prog.info? 3).map (fun i => (i.zero, i.size, i.bytes)) = some (some (.int .i64 0), 1, 8) := by kernel_rfl
/-- What lies between two rounds. -/
def SeqI (w : World) (B : Nat) (pre : List Int) (W : World) : Prop :=
  (∃ v, Boxed W B 23 v ∧ W.ownsRow B 3 1 v pre.length (pre.map (Value.int .i64)) ∧ (pre = [] → v = .slice none 0 0)) ∧ Below B w W
theorem SeqI.row {w : World} {B : Nat} {pre : List Int} {W : World} (h : SeqI w B pre W) : ∃ a c, Boxed W B 23 (.slice a pre.length c) ∧ W.ownsRow B 3 1 (.slice a pre.length c) pre.length (pre.map (Value.int .i64)) := by
  obtain ⟨⟨v, h1, h2, _⟩, _⟩ := h
  obtain ⟨a, c, rfl⟩ := ow_shape h2
  exact ⟨a, c, h1, h2⟩
theorem cell_one_newS (W : World) (u : Value) (T : TypeId) : ∀ j v, [u][j]? = some v → (W.alloc (.cells #[u] T)).cell? ((⟨W.heap.size, 0, none⟩ : Addr).add j) = some v := news_lit W [u] T
set_option maxRecDepth 100000 in
set_option maxHeartbeats 4000000 in
theorem appendSeqC (gf : Nat) (lb : Array Value) (eg : ∀ args w, (callFunc gf args).run Tryz.prog w = .ok (.enter gf args) w) (n0 : Nat) (w : World) (xs : List Int) (hn0 : n0 ≤ w.heap.size) (hlen : xs.length ≤ 1000000)
    (hseq : SeqA Tryz.prog gf lb (fun x : Int => #[.int .i64 x]) Makes (KpG n0 w.heap.size) xs (w.alloc (.cells #[.slice none 0 0] 23))) :
    Calls Tryz.prog 125 #[.slice none 0 0, .func (.func gf) #[] lb] w fun e w' => ∃ v, e = .returned v ∧ w'.ownsRow w.heap.size 3 1 v xs.length (xs.map (Value.int .i64)) ∧ (xs = [] → v = .slice none 0 0) ∧ Below w.heap.size w w' := by
  obtain ⟨i0, hi, hz0, hz1, hz2⟩ := info_parts info_int
  refine callsIn_wide.1 (callsIn_of_wp_marks (n := 9) Tryz.func125 rfl trivial ?_ rfl)
  simp only [Tryz.ntmps125, List.size_toArray, List.length_cons, List.length_nil, Nat.reduceAdd, Nat.reduceSub, Array.replicate_succ, Array.replicate_zero, List.push_toArray, List.append_toArray, List.nil_append, List.cons_append]
  gi_wp2_with fail
  have bO := Boxed.new w 23 (.slice none 0 0)
  have hB0 := bl_a (Below.refl w.heap.size w) (.cells #[.slice none 0 0] 23)
  refine rangeA (gf := gf) (lb := lb) rfl eg hseq (fun X Y h => h.others) (fun X Y Z h k => h.trans k) (fun W l o o' hl h hc => KpG.put (w := w.alloc (.cells #[.slice none 0 0] 23)) (by rw [World.size_alloc]; omega) (by rw [World.size_alloc]; omega) hl h hc) (Below.refl _ _) (fun _ => rfl)
    (SeqI w w.heap.size) (fun _ _ _ => False)
    (OwnFrom.and (Own.from (holdsRow_own w.heap.size w.heap.size 23 3 1 (fun pre => pre.length) (fun pre => pre.map (Value.int .i64)) (fun pre v => pre = [] → v = .slice none 0 0)) _) (ownFrom_below (Nat.le_refl _) (by simp)))
    (fun _ _ _ _ _ hs _ _ => hs)
    (fun s X Y h hm => by
      obtain ⟨⟨v, h1, h2, h3⟩, h4⟩ := h
      exact ⟨⟨v, h1.kept (gr_below (r := none) hm) (by simp), ow_below h2 hm, h3⟩, h4.trans (Below.mono hm h4.size)⟩)
    (fun _ _ _ _ h _ => h)
    ⟨⟨_, bO, World.ownsRow_nil _ _ _ _, fun _ => rfl⟩, hB0⟩
    (fun x => { tmps := #[.slice none 0 0, .func (.func gf) #[] lb, .pointer (some ⟨w.heap.size, 0, none⟩), undef, .slice none 0 0, .int .i64 x, .func (.func gf) #[] lb, .int .i64 x, undef, undef, undef, undef, undef], defers := [] }) ?assign ?body ?done ?stop
  case assign =>
    intro l x W K hK
    gi_wp2
    exact hK
  case body =>
    rintro l pre x W hI hpx
    obtain ⟨a, c, hv, hrow⟩ := hI.row
    have HB := Lib.hid hI.2
    have HV := Lib.hid hv
    have HROW := Lib.hid hrow
    have hpl : pre.length + 1 ≤ 1000000 := by
      obtain ⟨t, ht⟩ := hpx
      have := congrArg List.length ht
      simp at this; omega
    have hc := hv.cell
    have hsz : w.heap.size ≤ W.heap.size := hI.2.size
    clear hv hrow hI
    gi_wp2_with (gi_at_builtin; refine wpListIn_append_lies _ rfl _ _ 23 rfl w.heap.size 3 i0 (.int .i64 0) 1 8 Tryz.underlying23 hi hz0 hz1 hz2 rfl (by decide) _ _ _ rfl (HROW.out.alloc _) ⟨W.heap.size, 0, none⟩ 1 1 [.int .i64 x] rfl rfl (cell_one_newS _ _ _) (by simp [Value.oneCell']) (by decide) (by unfold maxLen; omega) (by omega) (by simp; omega) ?_; intro g' cap' w1 hown' hgrow hat hlt; have HOW := Lib.hid hown'; have HGR := Lib.hid hgrow; have HAT := Lib.hid hat; have HLT := Lib.hid hlt; obtain ⟨hv1, hv2, hr2, hk2, hb2⟩ := HV.out.appended (by decide) HROW.out hsz (Nat.le_refl _) hown' hgrow; have hc1 := hv1.cell; have hf1 := hv1.frozen; have HV2 := Lib.hid hv2; have HR2 := Lib.hid hr2; have HK2 := Lib.hid hk2; have HB2 := Lib.hid hb2; clear hown' hgrow hat hlt hv1 hv2 hr2 hk2 hb2)
    refine ⟨HK2.out.from _, ⟨HB2.out.mono hn0, ?_⟩, ⟨_, HV2.out, by simpa using HR2.out, fun e => by simp at e⟩, HB.out.trans HB2.out⟩
    exact kpB_append HV.out HGR.out HAT.out HLT.out HV2.out
  case done =>
    rintro D W hD hI hK
    obtain ⟨a, c, hv, hrow⟩ := hI.row
    have hc := hv.cell
    gi_wp2
    refine ⟨by simp, .inl ⟨_, _, rfl, run_takeDeferred hK, ?_⟩⟩
    exact ⟨_, results_tmp rfl _ _ _, _, rfl, ownsRow_putObj hrow _ hK rfl, fun e => by
      obtain ⟨⟨v, h1, _, h3⟩, _⟩ := hI
      have := h1.cell.symm.trans hv.cell
      rw [← Option.some.inj this]; exact h3 e, hI.2.trans (belowK_b (w := w) (Nat.le_refl _) W D _ _ (by simp at hD; omega) hK rfl rfl)⟩
  case stop =>
    rintro D c pre W _ _ h _
    exact h.elim
/-- slices.Collect. -/
theorem collectC (gf : Nat) (lb : Array Value) (eg : ∀ args w, (callFunc gf args).run Tryz.prog w = .ok (.enter gf args) w) (n0 : Nat) (w : World) (xs : List Int) (hn0 : n0 ≤ w.heap.size) (hlen : xs.length ≤ 1000000)
    (hseq : SeqA Tryz.prog gf lb (fun x : Int => #[.int .i64 x]) Makes (KpG n0 w.heap.size) xs (w.alloc (.cells #[.slice none 0 0] 23))) :
    Calls Tryz.prog 104 #[.func (.func gf) #[] lb] w fun e w' => ∃ v, e = .returned v ∧ w'.ownsRow w.heap.size 3 1 v xs.length (xs.map (Value.int .i64)) ∧ (xs = [] → v = .slice none 0 0) ∧ Below w.heap.size w w' := by
  have H := Lib.hid (appendSeqC gf lb eg n0 w xs hn0 hlen hseq)
  clear hseq eg
  go_enter Tryz.func104, Tryz.ntmps104
  go_wp2_with fail
  refine H.out.mono ?_
  rintro e w1 ⟨v, rfl, h1, h2, h3⟩
  obtain ⟨a, c, rfl⟩ := ow_shape h1
  have H1 := Lib.hid h1
  have H2 := Lib.hid h2
  have H3 := Lib.hid h3
  clear h1 h2 h3
  go_wp2
  go_ret
  exact ⟨_, rfl, H1.out, H2.out, H3.out⟩
end Go.Proofs.YtjggklfegcejhaaGreat
