/- view.walk: what is reached from a thing, by a function that calls itself and hands yield on. -/
import Derived.Test.YtjggklfegcejhaaGreatHas
import Derived.Test.YtjggklfegcejhaaGreatKids
import Derived.Deep.AppendLies
namespace Go.Proofs.YtjggklfegcejhaaGreat
open Go.RowKit Go.Shelf
set_option linter.unusedVariables false
set_option linter.unusedSimpArgs false
attribute [local go_sem] Oper.semAt_some

/-- All lists of a world lie below n0. -/
def AllLow (q : Wv) (n0 : Nat) : Prop := ∀ b o, (q.a0 = some ⟨b, o, none⟩ ∨ q.a1 = some ⟨b, o, none⟩ ∨ q.a2 = some ⟨b, o, none⟩ ∨ q.a3 = some ⟨b, o, none⟩ ∨ q.a4 = some ⟨b, o, none⟩ ∨ q.a5 = some ⟨b, o, none⟩ ∨ q.a6 = some ⟨b, o, none⟩) → b < n0
/-- A list stays where all below n0 stays, if it lies there. -/
theorem RowI.stays {w w' : World} {a : Option Addr} {n c n0 : Nat} {l : List Int} (h : RowI w (.slice a n c) l) (hl : ∀ b o, a = some ⟨b, o, none⟩ → 0 < l.length → b < n0) (hs : w.heap.size ≤ w'.heap.size) (hb : ∀ b, b < n0 → w'.heap[b]? = w.heap[b]?) : RowI w' (.slice a n c) l := by
  obtain ⟨ad, c', h1, h2, h3, h4⟩ := h
  refine ⟨ad, c', h1, h2, h3, fun i hi => ?_⟩
  obtain ⟨b, o, h4, h5, h6, h7⟩ := h4 i hi
  simp only [Value.slice.injEq] at h1
  refine ⟨b, o, h4, Nat.lt_of_lt_of_le h5 hs, (World.cell?_of_block (a := ⟨b, o + i, none⟩) (hb b (hl b o (h1.1.trans h4) (by omega)))).trans h6, h7⟩
/-- A world's lists that are not empty lie below n0. -/
structure LowL (q : Wv) (d : WdC) (n0 : Nat) : Prop where
  g0 : ∀ b o, q.a0 = some ⟨b, o, none⟩ → 0 < d.gl.length → b < n0
  g1 : ∀ b o, q.a1 = some ⟨b, o, none⟩ → 0 < d.pa.length → b < n0
  g2 : ∀ b o, q.a2 = some ⟨b, o, none⟩ → 0 < d.ch.length → b < n0
  g3 : ∀ b o, q.a3 = some ⟨b, o, none⟩ → 0 < d.nx.length → b < n0
  g4 : ∀ b o, q.a4 = some ⟨b, o, none⟩ → 0 < d.fl.length → b < n0
  g5 : ∀ b o, q.a5 = some ⟨b, o, none⟩ → 0 < d.pr.length → b < n0
  g6 : ∀ b o, q.a6 = some ⟨b, o, none⟩ → 0 < d.ti.length → b < n0
theorem WIs.lowL {w : World} {q : Wv} {d : WdC} (h : WIs w q d) : LowL q d w.heap.size :=
  ⟨fun b o e hn => h.gl.low hn e, fun b o e hn => h.pa.low hn e, fun b o e hn => h.ch.low hn e, fun b o e hn => h.nx.low hn e, fun b o e hn => h.fl.low hn e, fun b o e hn => h.pr.low hn e, fun b o e hn => h.ti.low hn e⟩
theorem LowL.mono {q : Wv} {d : WdC} {n m : Nat} (h : LowL q d n) (hm : n ≤ m) : LowL q d m :=
  ⟨fun b o e hn => Nat.lt_of_lt_of_le (h.g0 b o e hn) hm, fun b o e hn => Nat.lt_of_lt_of_le (h.g1 b o e hn) hm, fun b o e hn => Nat.lt_of_lt_of_le (h.g2 b o e hn) hm, fun b o e hn => Nat.lt_of_lt_of_le (h.g3 b o e hn) hm, fun b o e hn => Nat.lt_of_lt_of_le (h.g4 b o e hn) hm, fun b o e hn => Nat.lt_of_lt_of_le (h.g5 b o e hn) hm, fun b o e hn => Nat.lt_of_lt_of_le (h.g6 b o e hn) hm⟩
theorem WIs.stays {w w' : World} {q : Wv} {d : WdC} {n0 : Nat} (h : WIs w q d) (hl : LowL q d n0) (hb : Below n0 w w') : WIs w' q d :=
  ⟨h.gl.stays hl.g0 hb.size hb.block, h.pa.stays hl.g1 hb.size hb.block, h.ch.stays hl.g2 hb.size hb.block, h.nx.stays hl.g3 hb.size hb.block, h.fl.stays hl.g4 hb.size hb.block, h.pr.stays hl.g5 hb.size hb.block, h.ti.stays hl.g6 hb.size hb.block, h.i1, h.i2, h.i3, h.i4, h.i5⟩
theorem WOk.stays {w w' : World} {q : Wv} {d : WdC} {n n0 : Nat} (h : WOk w q d n) (hl : LowL q d n0) (hb : Below n0 w w') : WOk w' q d n := ⟨h.is.stays hl hb, h.len, h.l4, h.pos, h.few, h.fl, h.nest⟩

/-- The box B is there; what it points at is there. -/
def PtrOk (B : Nat) (W : World) : Prop := B < W.heap.size ∧ ∀ g, ptrW W B = some g → g < W.heap.size
theorem PtrOk.step {B : Nat} {W W' : World} (h : PtrOk B W) (k : KpB B W W') : PtrOk B W' := by
  refine ⟨Nat.lt_of_lt_of_le h.1 k.size, fun g hg => ?_⟩
  rcases k.ptr with e | ⟨g', e, _, h3⟩
  · exact Nat.lt_of_lt_of_le (h.2 g (e ▸ hg)) k.size
  · rw [e] at hg; cases hg; exact h3
/-- A block that rounds leave as it is. -/
structure Safe (B : Nat) (W : World) (b : Nat) : Prop where
  lt : b < W.heap.size
  cells : ∀ o, W.heap[b]? = some o → o.isCells = true
  ne : b ≠ B
  no : ptrW W B ≠ some b
theorem Safe.step {B : Nat} {W W' : World} {b : Nat} (h : Safe B W b) (k : KpB B W W') : Safe B W' b ∧ W'.heap[b]? = W.heap[b]? := by
  have e := k.blk b h.lt h.cells h.ne h.no
  refine ⟨⟨Nat.lt_of_lt_of_le h.lt k.size, fun o ho => h.cells o (e ▸ ho), h.ne, ?_⟩, e⟩
  rcases k.ptr with e' | ⟨g', e', h2, _⟩
  · rw [e']; exact h.no
  · rw [e']; intro x; cases x; have := h.lt; omega
/-- A block that has been laid since. -/
theorem Safe.new {B : Nat} {W W' : World} {b : Nat} (h : PtrOk B W) (hb : Below W.heap.size W W') (h1 : W.heap.size ≤ b) (h2 : b < W'.heap.size) (hc : ∀ o, W'.heap[b]? = some o → o.isCells = true) : Safe B W' b where
  lt := h2
  cells := hc
  ne := by have := h.1; omega
  no := by
    rw [ptr_kept (hb.block B h.1)]
    intro e; have := h.2 b e; omega
theorem own_cells {w : World} {b g k n c : Nat} {e : TypeId} {xs : List Value} (h : w.ownsRow b e k (.slice (some ⟨g, 0, none⟩) n c) n xs) : b ≤ g ∧ g < w.heap.size ∧ ∀ o, w.heap[g]? = some o → o.isCells = true := by
  rcases h.2 with ⟨h1, _⟩ | ⟨g', cap, cur, h3, h4, h5, _⟩
  · cases h1
  · simp at h3
    obtain ⟨rfl, _⟩ := h3
    exact ⟨h4, lt_of_block h5, fun o ho => by rw [h5] at ho; cases ho; rfl⟩
/-- What a thing's children bring, one by one. -/
def partW (rch : Int → List Int) (hid sho : Int → Bool) (c : Int) : List Int := if hid c = true then [] else c :: (if sho c = true then rch c else [])
theorem reach_flat (kids : Int → List Int) (hid sho : Int → Bool) (dep : Nat) (x : Int) : reachW kids hid sho (dep + 1) x = (kids x).flatMap (partW (reachW kids hid sho dep) hid sho) := rfl
theorem flat_split {α β : Type} (f : α → List β) (L : List α) (i : Nat) (h : i < L.length) : L.flatMap f = ((L.take i).flatMap f ++ f L[i]) ++ (L.drop (i + 1)).flatMap f := by
  have h0 : L = L.take i ++ (L[i] :: L.drop (i + 1)) := by rw [← List.drop_eq_getElem_cons h, List.take_append_drop]
  rw [show L.flatMap f = (L.take i ++ (L[i] :: L.drop (i + 1))).flatMap f from congrArg (fun l => List.flatMap f l) h0, List.flatMap_append, List.flatMap_cons, List.append_assoc]
theorem flat_succ {α β : Type} (f : α → List β) (L : List α) (i : Nat) (h : i < L.length) : (L.take (i + 1)).flatMap f = (L.take i).flatMap f ++ f L[i] := by
  rw [List.take_succ_eq_append_getElem h, List.flatMap_append]; simp
/-- A list of numbers that rounds leave as it is. -/
def RowSafe (B : Nat) (w : World) (a : Option Addr) (L : List Int) : Prop := 0 < L.length → ∃ g, a = some ⟨g, 0, none⟩ ∧ Safe B w g ∧ ∀ j (h : j < L.length), w.cell? ⟨g, j, none⟩ = some (.int .i64 L[j])
theorem RowSafe.step {B : Nat} {W W' : World} {a : Option Addr} {L : List Int} (h : RowSafe B W a L) (k : KpB B W W') : RowSafe B W' a L := fun hn => by
  obtain ⟨g, h1, h2, h3⟩ := h hn
  obtain ⟨h4, h5⟩ := h2.step k
  exact ⟨g, h1, h4, fun j hj => (World.cell?_of_block (a := ⟨g, j, none⟩) h5).trans (h3 j hj)⟩
theorem RowSafe.of {B : Nat} {W W' : World} {a : Option Addr} {c : Nat} {L : List Int} (h : OwnInts W.heap.size W' (.slice a L.length c) L) (hp : PtrOk B W) (hb : Below W.heap.size W W') : RowSafe B W' a L := fun hn => by
  obtain ⟨g, cap, e, hg, hlt⟩ := h.1.form hn
  simp at e
  obtain ⟨rfl, rfl⟩ := e
  obtain ⟨h1, h2, h3⟩ := own_cells h.1
  refine ⟨g, rfl, Safe.new hp hb h1 h2 h3, fun j hj => ?_⟩
  rw [h.1.cellAt j (by omega)]; simp [hj]
theorem makes_KpG {n0 Bs : Nat} {W W' : World} (h : Below W.heap.size W W') (hn : n0 ≤ W.heap.size) (hp : PtrOk Bs W) : KpG n0 Bs W W' := ⟨Below.mono h hn, Makes.kpB h hp.1⟩
/-- What a walk holds on to between two rounds. -/
structure WSt (q : Wv) (n0 Bs : Nat) (W : World) (a : Option Addr) (L : List Int) (wr : World) : Prop where
  k : KpG n0 Bs W wr
  s : Safe Bs wr W.heap.size
  b : BK wr W.heap.size (worldC q) 31
  r : RowSafe Bs wr a L
  p : PtrOk Bs wr
theorem WSt.step {q : Wv} {n0 Bs : Nat} {W wr w' : World} {a : Option Addr} {L : List Int} (h : WSt q n0 Bs W a L wr) (k : KpG n0 Bs wr w') : WSt q n0 Bs W a L w' :=
  ⟨h.k.trans k, (h.s.step k.2).1, (h.s.step k.2).2.trans h.b, h.r.step k.2, h.p.step k.2⟩
theorem WSt.makes {q : Wv} {n0 Bs : Nat} {W wr w' : World} {a : Option Addr} {L : List Int} (h : WSt q n0 Bs W a L wr) (hn : n0 ≤ W.heap.size) (k : Below wr.heap.size wr w') : WSt q n0 Bs W a L w' :=
  h.step (makes_KpG k (Nat.le_trans hn h.k.1.size) h.p)
/-- What a walk leaves. -/
def WalkPost (n0 Bs : Nat) (XS : List Int) (J Jx : List Int → World → Prop) (L pre : List Int) (W : World) (e : Ending) (W' : World) : Prop :=
  (e = .returned (.bool true) ∧ J (pre ++ L) W' ∧ KpG n0 Bs W W') ∨ (e = .returned (.bool false) ∧ ∃ p, p <+: XS ∧ Jx p W')
set_option maxRecDepth 100000 in
set_option maxHeartbeats 8000000 in
theorem walkStep (q : Wv) (d : WdC) (n l n0 Bs : Nat) (XS : List Int) (J Jx : List Int → World → Prop) (hlow : LowL q d n0)
    (hJ : ∀ s X Y, J s X → Makes X Y → J s Y) (hJx : ∀ s X Y, Jx s X → Makes X Y → Jx s Y)
    (hR : Rounds Tryz.prog l (fun x : Int => #[.int .i64 x]) (KpG n0 Bs) XS J Jx) (rch : Int → List Int) (x : Int)
    (IH : ∀ c ∈ kidsW d.ch d.nx n x, ∀ pre W, WOk W q d n → n0 ≤ W.heap.size → PtrOk Bs W → J pre W → (pre ++ rch c) <+: XS →
      Calls Tryz.prog 127 #[worldV q, .int .i64 c, .func (.yield l) #[] #[]] W (WalkPost n0 Bs XS J Jx (rch c) pre W))
    (pre : List Int) (W : World) (hW : WOk W q d n) (hn0 : n0 ≤ W.heap.size) (hp : PtrOk Bs W) (h0 : J pre W)
    (hx : pre ++ (kidsW d.ch d.nx n x).flatMap (partW rch (fun c => hasB d.fl n c 3) (showB d.fl n)) <+: XS) :
    Calls Tryz.prog 127 #[worldV q, .int .i64 x, .func (.yield l) #[] #[]] W (WalkPost n0 Bs XS J Jx ((kidsW d.ch d.nx n x).flatMap (partW rch (fun c => hasB d.fl n c 3) (showB d.fl n))) pre W) := by
  have hbw := bl_oneA W (.cells (worldC q).toArray 31)
  have HC := Lib.hid (childrenC q d x n (W.alloc (.cells (worldC q).toArray 31)) (hW.below hbw).is hW.len hW.pos (by have := hW.few; omega))
  have HHAS := Lib.hid (fun (c : Int) W' (hb : KpG n0 Bs W W') => hasC q d c 3 n W' (hW.stays hlow hb.1) (by decide) (by decide))
  have HSHO := Lib.hid (fun (c : Int) W' (hb : KpG n0 Bs W W') => showsC q d c n W' (hW.stays hlow hb.1))
  have hlen := kids_len1 d.ch d.nx n x (by have := hW.few; omega)
  have HIH : Hid (∀ c ∈ kidsW d.ch d.nx n x, ∀ pre W', KpG n0 Bs W W' → J pre W' → (pre ++ rch c) <+: XS →
      Calls Tryz.prog 127 #[worldV q, .int .i64 c, .func (.yield l) #[] #[]] W' (WalkPost n0 Bs XS J Jx (rch c) pre W')) := Lib.hid (fun c hc pre W' hb hj hpx => IH c hc pre W' (hW.stays hlow hb.1) (Nat.le_trans hn0 hb.1.size) (hp.step hb.2) hj hpx)
  have HK0 : Hid (KpG n0 Bs W (W.alloc (.cells (worldC q).toArray 31))) := Lib.hid (makes_KpG hbw hn0 hp)
  have HBN : Hid (BK (W.alloc (.cells (worldC q).toArray 31)) W.heap.size (worldC q) 31) := Lib.hid (BK.new _ _ _)
  have HJ := Lib.hid hJ
  have HJx := Lib.hid hJx
  have HR := Lib.hid hR
  have H0 := Lib.hid h0
  have HX := Lib.hid hx
  have HP := Lib.hid hp
  generalize kidsW d.ch d.nx n x = L at *
  have HF1 := Lib.hid (fun c (h : hasB d.fl n c 3 = true) => show partW rch (fun c => hasB d.fl n c 3) (showB d.fl n) c = [] by unfold partW; rw [if_pos h])
  have HF2 := Lib.hid (fun c (h : hasB d.fl n c 3 = false) (h' : showB d.fl n c = false) => show partW rch (fun c => hasB d.fl n c 3) (showB d.fl n) c = [c] by unfold partW; simp [h, h'])
  have HF3 := Lib.hid (fun c (h : hasB d.fl n c 3 = false) (h' : showB d.fl n c = true) => show partW rch (fun c => hasB d.fl n c 3) (showB d.fl n) c = [c] ++ rch c by unfold partW; simp [h, h'])
  generalize partW rch (fun c => hasB d.fl n c 3) (showB d.fl n) = f at *
  clear IH hW hlow hJ hJx hR h0 hx hp hbw
  unfold worldV at *
  refine callsIn_wide.1 (callsIn_of_wp (n := 9) Tryz.func127 rfl trivial ?_ rfl)
  simp only [Tryz.ntmps127, List.size_toArray, List.length_cons, List.length_nil, Nat.reduceAdd, Nat.reduceSub, Array.replicate_succ, Array.replicate_zero, List.push_toArray, List.append_toArray, List.nil_append, List.cons_append]
  unfold worldC at HC HHAS HSHO HIH HK0 ⊢
  gi_wp2_with fail
  refine ⟨trivial, (callsIn_wide.2 HC.out).mono ?_⟩
  rintro e W1 ⟨v, rfl, how, hb1⟩
  obtain ⟨a, c, rfl⟩ := how.shape
  have HOW := Lib.hid how
  have HB1 := Lib.hid hb1
  clear how hb1
  have HK1 : Hid (KpG n0 Bs W W1) := Lib.hid (HK0.out.trans (makes_KpG HB1.out (Nat.le_trans hn0 HK0.out.1.size) (HP.out.step HK0.out.2)))
  have HP0 : Hid (PtrOk Bs (W.alloc (.cells (worldC q).toArray 31))) := Lib.hid (HP.out.step HK0.out.2)
  have HRS : Hid (RowSafe Bs W1 a L) := Lib.hid (RowSafe.of HOW.out HP0.out HB1.out)
  have HBK : Hid (BK W1 W.heap.size (worldC q) 31) := Lib.hid (HBN.out.below HB1.out)
  have HSF : Hid (Safe Bs W1 W.heap.size) := Lib.hid (Safe.new HP.out ((bl_oneA W _).trans (HB1.out.mono (bl_oneA W _).size)) (Nat.le_refl _) (Nat.lt_of_lt_of_le (by simp) HB1.out.size) HBK.out.isCells)
  have HJ1 : Hid (J pre W1) := Lib.hid (HJ.out _ _ _ (HJ.out _ _ _ H0.out (bl_oneA W _)) HB1.out)
  have HST : Hid (WSt q n0 Bs W a L W1) := Lib.hid ⟨HK1.out, HSF.out, HBK.out, HRS.out, HP.out.step HK1.out.2⟩
  clear HC HB1 HOW HK1 HP0 HRS HBK HSF HK0 HBN
  gi_wp2_with fail
  gi_loopw [13] (fun iv wr => ∃ (i : Nat), iv = .int .i64 i ∧ i ≤ L.length ∧ Hid (J (pre ++ (L.take i).flatMap f) wr) ∧ Hid (WSt q n0 Bs W a L wr)) (fun iv _ => L.length - (intOf iv).toNat)
  case atStart => exact ⟨0, rfl, Nat.zero_le _, Lib.hid (by simpa using HJ1.out), HST⟩
  case round =>
    obtain ⟨i, rfl, hil, HJ2, HS2⟩ := hrel
    by_cases hlt : i < L.length
    · have hi63 : (i : Int) < 1000000 := by omega
      obtain ⟨g, ha, hsg, hcg⟩ := HS2.out.r (by omega)
      have hcl := hcg i hlt
      subst ha
      have HSP := Lib.hid (flat_split f L i hlt)
      have HSU := Lib.hid (flat_succ f L i hlt)
      have HM := Lib.hid (List.getElem_mem hlt)
      generalize hcc : L[i] = c' at hcl HSP HSU HM
      have HHA := Lib.hid (HHAS.out c')
      have HSH := Lib.hid (HSHO.out c')
      have HF1 := Lib.hid (HF1.out c')
      have HF2 := Lib.hid (HF2.out c')
      have HF3 := Lib.hid (HF3.out c')
      generalize hasB d.fl n c' 3 = b3' at HHA HF1 HF2 HF3
      generalize showB d.fl n c' = bs at HSH HF2 HF3
      have HB2 := Lib.hid HS2.out.b
      clear hcg hsg hcc
      obtain ⟨b0, b1, b2, b3, b4, b5, b6, b7, b8, b9, bA, bB, bC⟩ := wd13 (HB2.out)
      gi_wp2_with fail
      refine ⟨trivial, (callsIn_wide.2 (HHA.out _ HS2.out.k)).mono ?_⟩
      rintro e w2 ⟨rfl, hb2⟩
      have HS3 := Lib.hid (HS2.out.makes hn0 hb2)
      have HJ3 := Lib.hid (HJ.out _ _ _ HJ2.out hb2)
      clear hb2
      clear b0 b1 b2 b3 b4 b5 b6 b7 b8 b9 bA bB bC
      cases b3' with
      | true =>
        gi_wp2_with fail
        go_roundw
        case rel => exact ⟨i + 1, by go_num, by omega, Lib.hid (by rw [HSU.out, HF1.out (by trivial), List.append_nil]; exact HJ3.out), HS3⟩
        case measure => simp [intOf]; omega
      | false =>
        have HPX : Hid ((pre ++ (L.take i).flatMap f) ++ [c'] <+: XS) := Lib.hid (by
          refine List.IsPrefix.trans ?_ HX.out
          rw [HSP.out]
          cases bs with
          | false => rw [HF2.out rfl rfl]; exact ⟨(L.drop (i + 1)).flatMap f, by simp⟩
          | true => rw [HF3.out rfl rfl]; exact ⟨rch c' ++ (L.drop (i + 1)).flatMap f, by simp⟩)
        obtain ⟨fn, tmps, assign, body, hy, hRd⟩ := HR.out 8 _ c' w2 HJ3.out HPX.out
        gi_wp2_with fail
        refine hRd.mono ?_
        clear hRd hy
        rintro e w3 (⟨rfl, hJ4, hk4⟩ | ⟨rfl, hJx4⟩)
        · have HS4 := Lib.hid (HS3.out.step hk4)
          have HJ4 := Lib.hid hJ4
          have HB4 := Lib.hid HS4.out.b
          clear hJ4 hk4
          obtain ⟨b0, b1, b2, b3, b4, b5, b6, b7, b8, b9, bA, bB, bC⟩ := wd13 (HB4.out)
          gi_wp2_with fail
          refine ⟨trivial, (callsIn_wide.2 (HSH.out _ HS4.out.k)).mono ?_⟩
          rintro e w4 ⟨rfl, hb5⟩
          have HS5 := Lib.hid (HS4.out.makes hn0 hb5)
          have HJ5 := Lib.hid (HJ.out _ _ _ HJ4.out hb5)
          clear hb5
          clear b0 b1 b2 b3 b4 b5 b6 b7 b8 b9 bA bB bC
          cases bs with
          | false =>
            gi_wp2_with fail
            refine ⟨trivial, ?_⟩
            gi_wp2_with fail
            go_roundw
            case rel => exact ⟨i + 1, by go_num, by omega, Lib.hid (by rw [HSU.out, HF2.out (by trivial) (by trivial), ← List.append_assoc]; exact HJ5.out), HS5⟩
            case measure => simp [intOf]; omega
          | true =>
            have HB5 := Lib.hid HS5.out.b
            have HPY : Hid ((pre ++ (L.take i).flatMap f ++ [c']) ++ rch c' <+: XS) := Lib.hid (by
              refine List.IsPrefix.trans ?_ HX.out
              rw [HSP.out, HF3.out (by trivial) (by trivial)]
              exact ⟨(L.drop (i + 1)).flatMap f, by simp⟩)
            obtain ⟨b0, b1, b2, b3, b4, b5, b6, b7, b8, b9, bA, bB, bC⟩ := wd13 (HB5.out)
            gi_wp2_with fail
            refine ⟨trivial, (callsIn_wide.2 (HIH.out c' HM.out _ w4 HS5.out.k HJ5.out HPY.out)).mono ?_⟩
            rintro e w5 (⟨rfl, hJ6, hk6⟩ | ⟨rfl, p, hp6, hJx6⟩)
            · have HS6 := Lib.hid (HS5.out.step hk6)
              have HJ6 := Lib.hid hJ6
              clear hJ6 hk6
              clear b0 b1 b2 b3 b4 b5 b6 b7 b8 b9 bA bB bC
              gi_wp2_with fail
              go_roundw
              case rel => exact ⟨i + 1, by go_num, by omega, Lib.hid (by rw [HSU.out, HF3.out (by trivial) (by trivial)]; simpa using HJ6.out), HS6⟩
              case measure => simp [intOf]; omega
            · have HJX6 := Lib.hid hJx6
              have HP6 := Lib.hid hp6
              clear hJx6 hp6
              clear b0 b1 b2 b3 b4 b5 b6 b7 b8 b9 bA bB bC
              gi_wp2_with fail
              go_ret
              exact .inr ⟨rfl, p, HP6.out, HJX6.out⟩
        · have HJX4 := Lib.hid hJx4
          clear hJx4
          gi_wp2_with fail
          refine ⟨trivial, ?_⟩
          rename_i KK hKK
          refine hKK _ _ ?_
          gi_guarded
          gi_guarded
          rw [if_neg (fun h => (by cases h))]
          refine ⟨trivial, ?_⟩
          gi_wp2_with fail
          go_ret
          exact .inr ⟨rfl, _, HPX.out, HJX4.out⟩
    · gi_wp2_with fail
      go_ret
      exact .inl ⟨rfl, by rw [show L = L.take i from (List.take_of_length_le (by omega)).symm]; exact HJ2.out, HS2.out.k⟩
theorem walkC (q : Wv) (d : WdC) (n l n0 Bs : Nat) (XS : List Int) (J Jx : List Int → World → Prop) (hlow : LowL q d n0)
    (hJ : ∀ s X Y, J s X → Makes X Y → J s Y) (hJx : ∀ s X Y, Jx s X → Makes X Y → Jx s Y)
    (hR : Rounds Tryz.prog l (fun x : Int => #[.int .i64 x]) (KpG n0 Bs) XS J Jx) : ∀ (dep : Nat) (x : Int), HighW (kidsW d.ch d.nx n) dep x →
    ∀ (pre : List Int) (W : World), WOk W q d n → n0 ≤ W.heap.size → PtrOk Bs W → J pre W →
    pre ++ reachW (kidsW d.ch d.nx n) (fun c => hasB d.fl n c 3) (showB d.fl n) (dep + 1) x <+: XS →
    Calls Tryz.prog 127 #[worldV q, .int .i64 x, .func (.yield l) #[] #[]] W (WalkPost n0 Bs XS J Jx (reachW (kidsW d.ch d.nx n) (fun c => hasB d.fl n c 3) (showB d.fl n) (dep + 1) x) pre W)
  | 0, x, hh => fun pre W hW hn0 hp h0 hx =>
    walkStep q d n l n0 Bs XS J Jx hlow hJ hJx hR (reachW (kidsW d.ch d.nx n) (fun c => hasB d.fl n c 3) (showB d.fl n) 0) x (fun c hc => by rw [show kidsW d.ch d.nx n x = [] from hh] at hc; cases hc) pre W hW hn0 hp h0 hx
  | dep + 1, x, hh => fun pre W hW hn0 hp h0 hx =>
    walkStep q d n l n0 Bs XS J Jx hlow hJ hJx hR (reachW (kidsW d.ch d.nx n) (fun c => hasB d.fl n c 3) (showB d.fl n) (dep + 1)) x
      (fun c hc pre W hW hn0 hp h0 hx => walkC q d n l n0 Bs XS J Jx hlow hJ hJx hR dep c (hh c hc) pre W hW hn0 hp h0 hx) pre W hW hn0 hp h0 hx
end Go.Proofs.YtjggklfegcejhaaGreat
