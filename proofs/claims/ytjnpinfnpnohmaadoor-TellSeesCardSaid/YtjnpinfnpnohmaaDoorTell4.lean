/- letter.Join, tell.Look, tell.Status. -/
import Derived.Test.YtjnpinfnpnohmaaDoorTell3
import Derived.Test.YtjnpinfnpnohmaaDoorLit
namespace Go.Proofs.YtjnpinfnpnohmaaDoor
open Go.RowKit Go.PlainAid Go.Shelf
set_option linter.unusedVariables false
set_option linter.unusedSimpArgs false

/-- Texts with something between. -/
def joinL (sep : TxC) : List TxC → TxC
  | [] => []
  | a :: t => a ++ t.flatMap (fun s => sep ++ s)
theorem join_snoc (sep : TxC) : ∀ (l : List TxC) (s : TxC), joinL sep (l ++ [s]) = if l = [] then s else joinL sep l ++ sep ++ s
  | [], s => by simp [joinL]
  | a :: t, s => by simp [joinL]
theorem join_le {sep : TxC} {B : Nat} (hs : sep.length ≤ B) : ∀ (l : List TxC), (∀ s ∈ l, s.length ≤ B) → (joinL sep l).length ≤ l.length * (2 * B)
  | [], _ => by simp [joinL]
  | a :: t, h => by
    have h1 := h a (by simp)
    have h2 : ∀ (t : List TxC), (∀ s ∈ t, s.length ≤ B) → (t.flatMap (fun s => sep ++ s)).length ≤ t.length * (2 * B) := by
      intro t
      induction t with
      | nil => intro _; simp
      | cons b u ih =>
        intro hb
        have h3 := hb b (by simp)
        have h4 := ih (fun s hs => hb s (by simp [hs]))
        rw [List.flatMap_cons, List.length_append, List.length_append, List.length_cons, Nat.add_mul]
        omega
    have h5 := h2 t (fun s hs => h s (by simp [hs]))
    rw [joinL, List.length_append, List.length_cons, Nat.add_mul]
    omega
set_option maxRecDepth 100000 in
theorem joinC (B : Nat) (v : Value) (ls : List TxC) (sep : TxC) (w : World) (h : OwnStrs B w v ls) (hn : ls.length ≤ 100) (hsep : sep.length ≤ 2000000) (hs : ∀ s ∈ ls, s.length ≤ 2000000) :
    Calls Tryd.prog 44 #[v, mkS sep] w fun e w' => e = .returned (mkS (joinL sep ls)) ∧ w = w' := by
  obtain ⟨a, c, rfl⟩ := ow_shape h
  have HO := Lib.hid h
  have HS := Lib.hid hs
  obtain ⟨m, hm⟩ : ∃ m, ls.length = m := ⟨_, rfl⟩
  have HM := Lib.hid hm
  rw [hm] at hn ⊢
  clear h hs hm
  unfold mkS
  have hm1 : (m : Int) ≤ 100 := by omega
  have hzs : (⟨sep.toArray⟩ : ByteArray).size ≤ 2000000 := by show sep.toArray.size ≤ _; simpa using hsep
  go_enter Tryd.func44, Tryd.ntmps44
  go_wp2_with fail
  go_loop [5, 10] (fun ov iv => ∃ (i : Nat), ov = .string ⟨(joinL sep (ls.take i)).toArray⟩ ∧ iv = .int .i64 i ∧ i ≤ m) (fun _ iv => m - (intOf iv).toNat)
  case atStart => exact ⟨0, rfl, rfl, Nat.zero_le _⟩
  case round =>
    obtain ⟨i, rfl, rfl, hil⟩ := hrel
    by_cases hlt : i < m
    · have hil2 : i < ls.length := by rw [HM.out]; exact hlt
      obtain ⟨g, ha, hcg⟩ := own_str (by have := HO.out; exact this) (by omega)
      subst ha
      have hci := hcg i hil2
      have hz := HS.out ls[i] (List.getElem_mem _)
      have hj : Hid (joinL sep (ls.take (i + 1)) = if ls.take i = [] then ls[i] else joinL sep (ls.take i) ++ sep ++ ls[i]) := Lib.hid (by rw [List.take_succ_eq_append_getElem hil2, join_snoc])
      have hle := join_le hsep (ls.take i) (fun s hs => HS.out s (List.mem_of_mem_take hs))
      have HT : Hid (ls.take i = [] ↔ i = 0) := Lib.hid (by
        rw [List.take_eq_nil_iff]
        constructor
        · rintro (h | h)
          · exact h
          · rw [h] at hil2; simp at hil2
        · exact .inl)
      have hJZ : (joinL sep (ls.take i)).length ≤ 400000000 := by
        have : (ls.take i).length * (2 * 2000000) ≤ 100 * (2 * 2000000) := Nat.mul_le_mul_right _ (by rw [List.length_take]; omega)
        omega
      have HJ0 : Hid (i = 0 → joinL sep (ls.take i) = []) := Lib.hid (fun h => by subst h; rfl)
      have HJL := Lib.hid hj.out
      generalize joinL sep (ls.take i) = j0 at *
      generalize ls[i] = s at *
      have hzz : (⟨s.toArray⟩ : ByteArray).size ≤ 2000000 := by show s.toArray.size ≤ _; simpa using hz
      clear hcg hil2 hj hle
      by_cases h0 : i = 0
      · have h00 : j0 = [] := HJ0.out h0
        have HJ1 : Hid (joinL sep (ls.take 1) = s) := Lib.hid (by have := HJL.out; rw [if_pos (HT.out.2 h0)] at this; rw [h0] at this; exact this)
        subst h0 h00
        go_wp2
        go_round
        case rel => exact ⟨1, by rw [HJ1.out]; first | rfl | (apply congrArg; apply ByteArray.ext; simp), rfl, by omega⟩
        case measure => simp [intOf]; omega
      · have h1 : 0 < i := by omega
        have HH0 := Lib.hid h0
        clear h0
        go_wp2
        go_round
        case rel => exact ⟨i + 1, by rw [HJL.out, if_neg (fun h => HH0.out (HT.out.1 h)), ba_app, ba_app], by go_num, by omega⟩
        case measure => simp [intOf]; omega
    · have he : ls.take i = ls := List.take_of_length_le (by rw [HM.out]; omega)
      rw [he]
      clear he
      go_wp2
      go_ret
      exact ⟨rfl, rfl⟩
/-- Tables and a world that fit one another. -/
structure TW (t : TbC) (n : Nat) : Prop where
  th : t.th.length = n
  two : 2 ≤ n
  tx : ∀ s ∈ t.tx, s.length ≤ 1024
theorem ups_ne {pa : List Int} {n k : Nat} {x : Int} (hx : isW n x = true) (hk : 0 < k) : upsW pa n k x ≠ [] := by
  cases k with
  | zero => omega
  | succ k => rw [upsW, if_pos hx]; simp
/-- The room is a thing. -/
theorem top_is {pa : List Int} {n : Nat} {x : Int} (hx : isW n x = true) (hn : 0 < n) : isW n (topOf pa n x) = true := by
  unfold topOf
  have h1 := ups_ne (pa := pa) (k := n) hx hn
  rw [List.getLast?_eq_some_getLast h1]
  exact ups_is pa n n x _ (List.getLast_mem h1)
def darkL : TxC := [73, 116, 32, 105, 115, 32, 100, 97, 114, 107, 46, 10]
def seeL : TxC := [89, 111, 117, 32, 115, 101, 101, 32]
/-- What Look says, line by line. -/
def linesT (t : TbC) (d : WdC) (n : Nat) (room : Int) : List TxC :=
  [titleT t room] ++ (match t.th[room.toNat]? with | some y => if y.tx = -1 then [] else [textT t y.tx] | none => []) ++
    (if titlesL t d.fl (kidsW d.ch d.nx n room) = [] then [] else [seeL ++ rowT (titlesL t d.fl (kidsW d.ch d.nx n room)) ++ [46]])
def lookT (t : TbC) (d : WdC) (n : Nat) : TxC := if litB d n = true then joinL [10] (linesT t d n (topOf d.pa n 1)) ++ [10] else darkL
/-- The two boxes, in a later world. -/
structure Two (x : TAd) (t : TbC) (q : Wv) (w wr : World) : Prop where
  bt : BK wr w.heap.size (tabC x t) 28
  bw : BK wr (w.heap.size + 1) (worldC q) 34
  bl : Below w.heap.size w wr
theorem Two.below {x : TAd} {t : TbC} {q : Wv} {w wr w' : World} (h : Two x t q w wr) (hb : Below wr.heap.size wr w') : Two x t q w w' := ⟨h.bt.below hb, h.bw.below hb, bl_then h.bl hb⟩
theorem Two.new (x : TAd) (t : TbC) (q : Wv) (w : World) : Two x t q w ((w.alloc (.cells (tabC x t).toArray 28)).alloc (.cells (worldC q).toArray 34)) := by
  have z1 : (w.alloc (.cells (tabC x t).toArray 28)).heap.size = w.heap.size + 1 := World.size_alloc _ _
  refine ⟨(BK.new w (tabC x t) 28).alloc _, ?_, bl_a (bl_a (Below.refl _ _) _) _⟩
  have := BK.new (w.alloc (.cells (tabC x t).toArray 28)) (worldC q) 34
  rwa [z1] at this
theorem Two.app {x : TAd} {t : TbC} {q : Wv} {w wr w' : World} {v : Value} {ls : List TxC} (h : Two x t q w wr) (hr : OwnStrs (w.heap.size + 2) wr v ls) (hg : wr.grownBy w' v.ownBlock) : Two x t q w w' := by
  have hlo : ∀ j, v.ownBlock = some j → w.heap.size + 2 ≤ j := fun j hj => ow_lo hr j hj
  exact ⟨h.bt.kept hg (fun j hj => by have := hlo j hj; omega), h.bw.kept hg (fun j hj => by have := hlo j hj; omega), bl_g h.bl hg (fun j hj => by have := hlo j hj; omega)⟩
theorem one_str {B : Nat} (w : World) (s : TxC) (hb : B ≤ w.heap.size) : OwnStrs B (w.alloc (.cells #[.string ⟨s.toArray⟩] 9)) (.slice (some ⟨w.heap.size, 0, none⟩) 1 1) [s] :=
  World.ownsRow_lit w #[mkS s] 1 hb (by decide) (by rfl)
theorem linesT_eq {t : TbC} {d : WdC} {n k : Nat} {y : ThC} (hy : t.th[k]? = some y) {ti lt tt : TxC} {ls : List TxC} (h1 : titleT t (k : Int) = ti) (h2 : textT t y.tx = tt) (h3 : titlesL t d.fl (kidsW d.ch d.nx n (k : Int)) = ls) (h4 : rowT ls = lt) :
    linesT t d n (k : Int) = [ti] ++ (if y.tx = -1 then [] else [tt]) ++ (if ls = [] then [] else [seeL ++ lt ++ [46]]) := by
  subst h1 h2 h3 h4
  unfold linesT
  rw [Int.toNat_natCast, hy]
theorem text_le {t : TbC} (h : ∀ s ∈ t.tx, s.length ≤ 1024) (i : Int) : (textT t i).length ≤ 1024 := by
  unfold textT
  split
  · rw [List.getD_eq_getElem?_getD]
    cases hc : t.tx[i.toNat]? with
    | none => simp
    | some s => exact h s (List.mem_of_getElem? hc)
  · simp
theorem tail_le {an co : TxC} (ha : an.length ≤ 5) (hc : co.length ≤ 5) : ∀ (l : List TxC), (∀ s ∈ l, s.length ≤ 1024) → (tailP an co l).length ≤ l.length * 1029
  | [], _ => by simp [tailP]
  | b :: t, h => by
    have h1 := h b (by simp)
    have h2 := tail_le ha hc t (fun s hs => h s (by simp [hs]))
    rw [tail_step, List.length_append, List.length_append, List.length_cons, Nat.add_mul]
    have : (if t = [] then an else co).length ≤ 5 := by split <;> assumption
    omega
theorem row_le {ls : List TxC} (h : ∀ s ∈ ls, s.length ≤ 1024) : (rowT ls).length ≤ ls.length * 1029 + 1024 := by
  cases ls with
  | nil => decide
  | cons a t =>
    have h1 := h a (by simp)
    have h2 := tail_le (an := anL) (co := coL) (by decide) (by decide) t (fun s hs => h s (by simp [hs]))
    rw [rowT, List.length_append, List.length_cons, Nat.add_mul]
    omega
set_option maxRecDepth 100000 in
set_option maxHeartbeats 8000000 in
theorem lookC (x : TAd) (t : TbC) (q : Wv) (d : WdC) (n : Nat) (w : World) (ht : TabIs w x t) (hW : WOk w q d n) (hT : TW t n) :
    Calls Tryd.prog 17 #[tabV x t, worldV q] w fun e w' => e = .returned (mkS (lookT t d n)) ∧ Below w.heap.size w w' := by
  have hnew := Two.new x t q w
  obtain ⟨W0, hW0⟩ : ∃ W0, (w.alloc (.cells (tabC x t).toArray 28)).alloc (.cells (worldC q).toArray 34) = W0 := ⟨_, rfl⟩
  rw [hW0] at hnew
  have HLIT := Lib.hid (fun w' (hb : Below w.heap.size w w') => litC x t q d n w' (hW.below hb))
  have HHERE := Lib.hid (fun w' (hb : Below w.heap.size w w') => hereC q d n w' (hW.below hb))
  have HTI := Lib.hid (fun i w' (hb : Below w.heap.size w w') => tellTitle x t i w' (ht.below hb))
  have HTX := Lib.hid (fun i w' (hb : Below w.heap.size w w') => tellText x t i w' (ht.below hb))
  have HLD := Lib.hid (fun y w' (hb : Below w.heap.size w w') => listedC x t q d n y w' (ht.below hb) (hW.below hb))
  have HLS := Lib.hid (fun y w' (hb : Below w.heap.size w w') => listC x t q d n y w' (ht.below hb) (hW.below hb) hT.tx)
  have his := isW_lt (top_is (pa := d.pa) (n := n) (x := 1) (by rw [isW_spec]; have := hT.two; omega) hW.pos)
  have hfew := hW.few
  unfold lookT
  generalize topOf d.pa n 1 = room at *
  obtain ⟨k, rfl⟩ : ∃ k : Nat, room = k := ⟨room.toNat, by omega⟩
  have hk : k < t.th.length := by rw [hT.th]; omega
  have hkn : k < n := by omega
  obtain ⟨b, off, cap, hv, hcap, hblt, hcell⟩ := th_open ht.th (by omega)
  have hac : x.a8 = some ⟨b, off, none⟩ := by simp at hv; exact hv.1
  obtain ⟨r1, r2, r3, r4, hth, hrow⟩ := hcell k hk
  have e0 := hrow 1 (by decide)
  simp only [thRow, List.getElem?_cons_zero, List.getElem?_cons_succ] at e0
  have HE := Lib.hid (fun wr (hb : Below w.heap.size w wr) => (hb.cell (p := ⟨b, off + k * 9 + 1, none⟩) hblt).trans e0)
  have HLN := Lib.hid (linesT_eq (d := d) (n := n) (List.getElem?_eq_getElem hk) rfl rfl rfl rfl)
  have HTI := Lib.hid (HTI.out (k : Int))
  have HTX := Lib.hid (HTX.out (t.th[k]).tx)
  have HLD := Lib.hid (HLD.out (k : Int))
  have HLS := Lib.hid (HLS.out (k : Int))
  have hz1 := title_le hT.tx (k : Int)
  have hz2 := text_le hT.tx (t.th[k]).tx
  have hz3 := row_le (ls := titlesL t d.fl (kidsW d.ch d.nx n (k : Int))) (titles_le hT.tx)
  have hz4 := Nat.le_trans (titles_len (t := t) (fl := d.fl) (l := kidsW d.ch d.nx n (k : Int))) (Nat.le_trans (kids_len d.ch d.nx n (k : Int)) hfew)
  generalize linesT t d n (k : Int) = lns at *
  generalize titleT t (k : Int) = ti at *
  generalize textT t (t.th[k]).tx = tt at *
  generalize (t.th[k]).tx = tx at *
  generalize titlesL t d.fl (kidsW d.ch d.nx n (k : Int)) = ls at *
  generalize rowT ls = rl at *
  generalize litB d n = lit at *
  have hzr : rl.length ≤ 1030024 := by omega
  clear hz3 hz4
  have hq0 : (0 : Int) ≤ (k : Int) := by omega
  have hq1 : (k : Int) < (t.th.length : Int) := by omega
  have hm := reads_few ht.th
  unfold maxLen at hm
  clear hv hcell hth hrow e0 his
  clear ht hW hT
  obtain ⟨i0, hi, hi1, hi2, hi3⟩ := info_parts info_str
  obtain ⟨x4, x6, x7, x8, x9, x10, x11, x12, x13, x14, c4, c6, c7, c8, c9, c10, c11, c12, c13, c14⟩ := x
  simp only at hac
  subst hac
  have HTW := Lib.hid (hnew)
  have HTWt := Lib.hid HTW.out.bt
  have HTWw := Lib.hid HTW.out.bw
  have kt0 := HTWt.out.cell 0
  have kt1 := HTWt.out.cell 1
  have kt2 := HTWt.out.cell 2
  have kt3 := HTWt.out.cell 3
  have kt4 := HTWt.out.cell 4
  have kt5 := HTWt.out.cell 5
  have kt6 := HTWt.out.cell 6
  have kt7 := HTWt.out.cell 7
  have kt8 := HTWt.out.cell 8
  have kt9 := HTWt.out.cell 9
  have kt10 := HTWt.out.cell 10
  have kt11 := HTWt.out.cell 11
  have kt12 := HTWt.out.cell 12
  have kt13 := HTWt.out.cell 13
  have kt14 := HTWt.out.cell 14
  simp only [tabC, List.getElem?_cons_zero, List.getElem?_cons_succ] at kt0 kt1 kt2 kt3 kt4 kt5 kt6 kt7 kt8 kt9 kt10 kt11 kt12 kt13 kt14
  have b0 := HTWw.out.cell 0
  have b1 := HTWw.out.cell 1
  have b2 := HTWw.out.cell 2
  have b3 := HTWw.out.cell 3
  have b4 := HTWw.out.cell 4
  have b5 := HTWw.out.cell 5
  have b6 := HTWw.out.cell 6
  have b7 := HTWw.out.cell 7
  have b8 := HTWw.out.cell 8
  have b9 := HTWw.out.cell 9
  have bA := HTWw.out.cell 10
  have bB := HTWw.out.cell 11
  have bC := HTWw.out.cell 12
  simp only [worldC, List.getElem?_cons_zero, List.getElem?_cons_succ] at b0 b1 b2 b3 b4 b5 b6 b7 b8 b9 bA bB bC
  clear hnew
  unfold worldV tabV at *
  go_enter Tryd.func17, Tryd.ntmps17
  unfold worldC at HLIT HHERE HLD HLS hW0 ⊢
  unfold tabC at HLIT HTI HTX HLD HLS hW0 ⊢
  unfold mkS at HTI HTX HLS ⊢
  go_wp2_with fail
  clear hW0
  refine (HLIT.out _ HTW.out.bl).mono ?_
  rintro e w1 ⟨rfl, hb1⟩
  have hnew := HTW.out.below hb1
  clear hb1
  clear kt0 kt1 kt2 kt3 kt4 kt5 kt6 kt7 kt8 kt9 kt10 kt11 kt12 kt13 kt14
  clear b0 b1 b2 b3 b4 b5 b6 b7 b8 b9 bA bB bC
  clear HTWt HTWw
  clear HTW
  have HTW := Lib.hid (hnew)
  have HTWt := Lib.hid HTW.out.bt
  have HTWw := Lib.hid HTW.out.bw
  have kt0 := HTWt.out.cell 0
  have kt1 := HTWt.out.cell 1
  have kt2 := HTWt.out.cell 2
  have kt3 := HTWt.out.cell 3
  have kt4 := HTWt.out.cell 4
  have kt5 := HTWt.out.cell 5
  have kt6 := HTWt.out.cell 6
  have kt7 := HTWt.out.cell 7
  have kt8 := HTWt.out.cell 8
  have kt9 := HTWt.out.cell 9
  have kt10 := HTWt.out.cell 10
  have kt11 := HTWt.out.cell 11
  have kt12 := HTWt.out.cell 12
  have kt13 := HTWt.out.cell 13
  have kt14 := HTWt.out.cell 14
  simp only [tabC, List.getElem?_cons_zero, List.getElem?_cons_succ] at kt0 kt1 kt2 kt3 kt4 kt5 kt6 kt7 kt8 kt9 kt10 kt11 kt12 kt13 kt14
  have b0 := HTWw.out.cell 0
  have b1 := HTWw.out.cell 1
  have b2 := HTWw.out.cell 2
  have b3 := HTWw.out.cell 3
  have b4 := HTWw.out.cell 4
  have b5 := HTWw.out.cell 5
  have b6 := HTWw.out.cell 6
  have b7 := HTWw.out.cell 7
  have b8 := HTWw.out.cell 8
  have b9 := HTWw.out.cell 9
  have bA := HTWw.out.cell 10
  have bB := HTWw.out.cell 11
  have bC := HTWw.out.cell 12
  simp only [worldC, List.getElem?_cons_zero, List.getElem?_cons_succ] at b0 b1 b2 b3 b4 b5 b6 b7 b8 b9 bA bB bC
  clear hnew
  cases lit with
  | false =>
    go_wp2
    go_ret
    exact ⟨rfl, HTW.out.bl⟩
  | true =>
    go_wp2_with fail
    refine (HHERE.out _ HTW.out.bl).mono ?_
    rintro e w2 ⟨rfl, hb1⟩
    have hnew := HTW.out.below hb1
    clear hb1
    clear kt0 kt1 kt2 kt3 kt4 kt5 kt6 kt7 kt8 kt9 kt10 kt11 kt12 kt13 kt14
    clear b0 b1 b2 b3 b4 b5 b6 b7 b8 b9 bA bB bC
    clear HTWt HTWw
    clear HTW
    have HTW := Lib.hid (hnew)
    have HTWt := Lib.hid HTW.out.bt
    have HTWw := Lib.hid HTW.out.bw
    have kt0 := HTWt.out.cell 0
    have kt1 := HTWt.out.cell 1
    have kt2 := HTWt.out.cell 2
    have kt3 := HTWt.out.cell 3
    have kt4 := HTWt.out.cell 4
    have kt5 := HTWt.out.cell 5
    have kt6 := HTWt.out.cell 6
    have kt7 := HTWt.out.cell 7
    have kt8 := HTWt.out.cell 8
    have kt9 := HTWt.out.cell 9
    have kt10 := HTWt.out.cell 10
    have kt11 := HTWt.out.cell 11
    have kt12 := HTWt.out.cell 12
    have kt13 := HTWt.out.cell 13
    have kt14 := HTWt.out.cell 14
    simp only [tabC, List.getElem?_cons_zero, List.getElem?_cons_succ] at kt0 kt1 kt2 kt3 kt4 kt5 kt6 kt7 kt8 kt9 kt10 kt11 kt12 kt13 kt14
    have b0 := HTWw.out.cell 0
    have b1 := HTWw.out.cell 1
    have b2 := HTWw.out.cell 2
    have b3 := HTWw.out.cell 3
    have b4 := HTWw.out.cell 4
    have b5 := HTWw.out.cell 5
    have b6 := HTWw.out.cell 6
    have b7 := HTWw.out.cell 7
    have b8 := HTWw.out.cell 8
    have b9 := HTWw.out.cell 9
    have bA := HTWw.out.cell 10
    have bB := HTWw.out.cell 11
    have bC := HTWw.out.cell 12
    simp only [worldC, List.getElem?_cons_zero, List.getElem?_cons_succ] at b0 b1 b2 b3 b4 b5 b6 b7 b8 b9 bA bB bC
    clear hnew
    go_wp2_with fail
    refine (HTI.out _ HTW.out.bl).mono ?_
    rintro e w3 ⟨rfl, hb1⟩
    have hn3 := HTW.out.below hb1
    have HR3 := Lib.hid (one_str (B := w.heap.size + 2) w3 ti hn3.bw.lt)
    have hnew := hn3.below (bl_oneA w3 (.cells #[.string ⟨ti.toArray⟩] 9))
    clear hb1 hn3
    clear kt0 kt1 kt2 kt3 kt4 kt5 kt6 kt7 kt8 kt9 kt10 kt11 kt12 kt13 kt14
    clear b0 b1 b2 b3 b4 b5 b6 b7 b8 b9 bA bB bC
    clear HTWt HTWw
    clear HTW
    obtain ⟨w4, hw4⟩ : ∃ w4, w3.alloc (.cells #[.string ⟨ti.toArray⟩] 9) = w4 := ⟨_, rfl⟩
    rw [hw4] at hnew HR3
    have HTW := Lib.hid (hnew)
    have HTWt := Lib.hid HTW.out.bt
    have HTWw := Lib.hid HTW.out.bw
    have kt0 := HTWt.out.cell 0
    have kt1 := HTWt.out.cell 1
    have kt2 := HTWt.out.cell 2
    have kt3 := HTWt.out.cell 3
    have kt4 := HTWt.out.cell 4
    have kt5 := HTWt.out.cell 5
    have kt6 := HTWt.out.cell 6
    have kt7 := HTWt.out.cell 7
    have kt8 := HTWt.out.cell 8
    have kt9 := HTWt.out.cell 9
    have kt10 := HTWt.out.cell 10
    have kt11 := HTWt.out.cell 11
    have kt12 := HTWt.out.cell 12
    have kt13 := HTWt.out.cell 13
    have kt14 := HTWt.out.cell 14
    simp only [tabC, List.getElem?_cons_zero, List.getElem?_cons_succ] at kt0 kt1 kt2 kt3 kt4 kt5 kt6 kt7 kt8 kt9 kt10 kt11 kt12 kt13 kt14
    have b0 := HTWw.out.cell 0
    have b1 := HTWw.out.cell 1
    have b2 := HTWw.out.cell 2
    have b3 := HTWw.out.cell 3
    have b4 := HTWw.out.cell 4
    have b5 := HTWw.out.cell 5
    have b6 := HTWw.out.cell 6
    have b7 := HTWw.out.cell 7
    have b8 := HTWw.out.cell 8
    have b9 := HTWw.out.cell 9
    have bA := HTWw.out.cell 10
    have bB := HTWw.out.cell 11
    have bC := HTWw.out.cell 12
    simp only [worldC, List.getElem?_cons_zero, List.getElem?_cons_succ] at b0 b1 b2 b3 b4 b5 b6 b7 b8 b9 bA bB bC
    clear hnew
    have hcx := HE.out _ HTW.out.bl
    by_cases htx : tx = -1
    · have hqx : (tx != -1) = false := by simpa using htx
      go_wp2_with fail
      refine (HLD.out _ HTW.out.bl).mono ?_
      rintro e w7 ⟨v7, rfl, how, hb7⟩
      obtain ⟨a7, c7, rfl⟩ := ow_shape how
      have hnew := HTW.out.below hb7
      have HR7 := Lib.hid (ow_below HR3.out hb7)
      clear how hb7
      clear kt0 kt1 kt2 kt3 kt4 kt5 kt6 kt7 kt8 kt9 kt10 kt11 kt12 kt13 kt14
      clear b0 b1 b2 b3 b4 b5 b6 b7 b8 b9 bA bB bC
      clear HTWt HTWw
      clear HTW
      have HTW := Lib.hid (hnew)
      have HTWt := Lib.hid HTW.out.bt
      have HTWw := Lib.hid HTW.out.bw
      have kt0 := HTWt.out.cell 0
      have kt1 := HTWt.out.cell 1
      have kt2 := HTWt.out.cell 2
      have kt3 := HTWt.out.cell 3
      have kt4 := HTWt.out.cell 4
      have kt5 := HTWt.out.cell 5
      have kt6 := HTWt.out.cell 6
      have kt7 := HTWt.out.cell 7
      have kt8 := HTWt.out.cell 8
      have kt9 := HTWt.out.cell 9
      have kt10 := HTWt.out.cell 10
      have kt11 := HTWt.out.cell 11
      have kt12 := HTWt.out.cell 12
      have kt13 := HTWt.out.cell 13
      have kt14 := HTWt.out.cell 14
      simp only [tabC, List.getElem?_cons_zero, List.getElem?_cons_succ] at kt0 kt1 kt2 kt3 kt4 kt5 kt6 kt7 kt8 kt9 kt10 kt11 kt12 kt13 kt14
      have b0 := HTWw.out.cell 0
      have b1 := HTWw.out.cell 1
      have b2 := HTWw.out.cell 2
      have b3 := HTWw.out.cell 3
      have b4 := HTWw.out.cell 4
      have b5 := HTWw.out.cell 5
      have b6 := HTWw.out.cell 6
      have b7 := HTWw.out.cell 7
      have b8 := HTWw.out.cell 8
      have b9 := HTWw.out.cell 9
      have bA := HTWw.out.cell 10
      have bB := HTWw.out.cell 11
      have bC := HTWw.out.cell 12
      simp only [worldC, List.getElem?_cons_zero, List.getElem?_cons_succ] at b0 b1 b2 b3 b4 b5 b6 b7 b8 b9 bA bB bC
      clear hnew
      cases ls with
      | nil =>
        go_wp2_with fail
        clear kt0 kt1 kt2 kt3 kt4 kt5 kt6 kt7 kt8 kt9 kt10 kt11 kt12 kt13 kt14
        clear b0 b1 b2 b3 b4 b5 b6 b7 b8 b9 bA bB bC
        clear HTWt HTWw
        have hbd : ∀ s ∈ [ti], s.length ≤ 2000000 := by simp; omega
        refine (joinC (w.heap.size + 2) _ ([ti]) [10] _ HR7.out (by simp) (by decide) hbd).mono ?_
        rintro e w9 ⟨rfl, rfl⟩
        have hjl := join_le (sep := [10]) (B := 2000000) (by decide) ([ti]) hbd
        have HJE : Hid (joinL [10] ([ti]) ++ [10] = joinL [10] lns ++ [10]) := Lib.hid (by rw [HLN.out]; simp [htx])
        have hjl2 : (joinL [10] ([ti])).length ≤ 20000000 := Nat.le_trans hjl (by simp)
        clear hjl hbd
        unfold mkS
        generalize joinL [10] ([ti]) = jj at *
        go_wp2
        go_ret
        exact ⟨by show Ending.returned (.string (_ ++ ⟨([10] : TxC).toArray⟩)) = _; rw [ba_app, HJE.out], HTW.out.bl⟩
      | cons l0 lt =>
        go_wp2_with fail
        refine (HLS.out _ HTW.out.bl).mono ?_
        rintro e w8 ⟨rfl, hb8⟩
        have hn8 := HTW.out.below hb8
        have HSE : Hid ((⟨#[89, 111, 117, 32, 115, 101, 101, 32]⟩ : ByteArray) ++ ⟨rl.toArray⟩ ++ ⟨#[46]⟩ = ⟨(seeL ++ rl ++ [46]).toArray⟩) := Lib.hid (by
          rw [show (⟨#[89, 111, 117, 32, 115, 101, 101, 32]⟩ : ByteArray) = ⟨seeL.toArray⟩ from rfl, show (⟨#[46]⟩ : ByteArray) = ⟨([46] : TxC).toArray⟩ from rfl, ba_app, ba_app])
        have hsl : (seeL ++ rl ++ [46]).length ≤ 1031000 := by simp [seeL]; omega
        generalize seeL ++ rl ++ [46] = sl at HSE HLN hsl
        have HR8 := Lib.hid ((ow_below HR7.out hb8).alloc (.cells #[.string ⟨sl.toArray⟩] 9))
        have hnew := hn8.below (bl_oneA w8 (.cells #[.string ⟨sl.toArray⟩] 9))
        clear hb8 hn8
        clear kt0 kt1 kt2 kt3 kt4 kt5 kt6 kt7 kt8 kt9 kt10 kt11 kt12 kt13 kt14
        clear b0 b1 b2 b3 b4 b5 b6 b7 b8 b9 bA bB bC
        clear HTWt HTWw
        clear HTW
        have HTW := Lib.hid (hnew)
        have HTWt := Lib.hid HTW.out.bt
        have HTWw := Lib.hid HTW.out.bw
        have kt0 := HTWt.out.cell 0
        have kt1 := HTWt.out.cell 1
        have kt2 := HTWt.out.cell 2
        have kt3 := HTWt.out.cell 3
        have kt4 := HTWt.out.cell 4
        have kt5 := HTWt.out.cell 5
        have kt6 := HTWt.out.cell 6
        have kt7 := HTWt.out.cell 7
        have kt8 := HTWt.out.cell 8
        have kt9 := HTWt.out.cell 9
        have kt10 := HTWt.out.cell 10
        have kt11 := HTWt.out.cell 11
        have kt12 := HTWt.out.cell 12
        have kt13 := HTWt.out.cell 13
        have kt14 := HTWt.out.cell 14
        simp only [tabC, List.getElem?_cons_zero, List.getElem?_cons_succ] at kt0 kt1 kt2 kt3 kt4 kt5 kt6 kt7 kt8 kt9 kt10 kt11 kt12 kt13 kt14
        have b0 := HTWw.out.cell 0
        have b1 := HTWw.out.cell 1
        have b2 := HTWw.out.cell 2
        have b3 := HTWw.out.cell 3
        have b4 := HTWw.out.cell 4
        have b5 := HTWw.out.cell 5
        have b6 := HTWw.out.cell 6
        have b7 := HTWw.out.cell 7
        have b8 := HTWw.out.cell 8
        have b9 := HTWw.out.cell 9
        have bA := HTWw.out.cell 10
        have bB := HTWw.out.cell 11
        have bC := HTWw.out.cell 12
        simp only [worldC, List.getElem?_cons_zero, List.getElem?_cons_succ] at b0 b1 b2 b3 b4 b5 b6 b7 b8 b9 bA bB bC
        clear hnew
        have hse := HSE.out
        have HNS := Lib.hid (str_newS w8 sl 9)
        have hz8 := HTW.out.bw.lt
        go_wp2_with (at_builtin; refine wpList_append_own _ rfl _ _ 22 rfl (w.heap.size + 2) 9 i0 (.string ⟨#[]⟩) 1 16 Tryd.underlying22 hi hi1 hi2 hi3 rfl (by decide) _ ([ti]).length (([ti]).map mkS) rfl HR8.out ⟨w8.heap.size, 0, none⟩ 1 1 [mkS sl] rfl rfl HNS.out (ow_one rfl) (by unfold maxLen; simp) (by simp) (by omega) ?_; intro v11 w11 hown11 hgrow11 _; obtain ⟨g11, c11', rfl⟩ := ownsRow_succ hown11; have HR11 : Hid (OwnStrs (w.heap.size + 2) w11 (.slice (some ⟨g11, 0, none⟩) (([ti]).length + 1) c11') (([ti]) ++ [sl])) := Lib.hid (by unfold OwnStrs; simpa using hown11); have HTW11 := Lib.hid (HTW.out.app HR8.out hgrow11); clear hown11 hgrow11)
        clear kt0 kt1 kt2 kt3 kt4 kt5 kt6 kt7 kt8 kt9 kt10 kt11 kt12 kt13 kt14
        clear b0 b1 b2 b3 b4 b5 b6 b7 b8 b9 bA bB bC
        clear HTWt HTWw
        have HTW := HTW11
        have hbd : ∀ s ∈ [ti] ++ [sl], s.length ≤ 2000000 := by simp; omega
        refine (joinC (w.heap.size + 2) _ ([ti] ++ [sl]) [10] _ HR11.out (by simp) (by decide) hbd).mono ?_
        rintro e w9 ⟨rfl, rfl⟩
        have hjl := join_le (sep := [10]) (B := 2000000) (by decide) ([ti] ++ [sl]) hbd
        have HJE : Hid (joinL [10] ([ti] ++ [sl]) ++ [10] = joinL [10] lns ++ [10]) := Lib.hid (by rw [HLN.out]; simp [htx])
        have hjl2 : (joinL [10] ([ti] ++ [sl])).length ≤ 20000000 := Nat.le_trans hjl (by simp)
        clear hjl hbd
        unfold mkS
        generalize joinL [10] ([ti] ++ [sl]) = jj at *
        go_wp2
        go_ret
        exact ⟨by show Ending.returned (.string (_ ++ ⟨([10] : TxC).toArray⟩)) = _; rw [ba_app, HJE.out], HTW.out.bl⟩
    · have hqx : (tx != -1) = true := by simpa using htx
      go_wp2_with fail
      refine (HTX.out _ HTW.out.bl).mono ?_
      rintro e w5 ⟨rfl, hb5⟩
      have hn5 := HTW.out.below hb5
      have HR5 := Lib.hid ((ow_below HR3.out hb5).alloc (.cells #[.string ⟨tt.toArray⟩] 9))
      have hnew := hn5.below (bl_oneA w5 (.cells #[.string ⟨tt.toArray⟩] 9))
      clear hb5 hn5
      clear kt0 kt1 kt2 kt3 kt4 kt5 kt6 kt7 kt8 kt9 kt10 kt11 kt12 kt13 kt14
      clear b0 b1 b2 b3 b4 b5 b6 b7 b8 b9 bA bB bC
      clear HTWt HTWw
      clear HTW
      have HTW := Lib.hid (hnew)
      have HTWt := Lib.hid HTW.out.bt
      have HTWw := Lib.hid HTW.out.bw
      have kt0 := HTWt.out.cell 0
      have kt1 := HTWt.out.cell 1
      have kt2 := HTWt.out.cell 2
      have kt3 := HTWt.out.cell 3
      have kt4 := HTWt.out.cell 4
      have kt5 := HTWt.out.cell 5
      have kt6 := HTWt.out.cell 6
      have kt7 := HTWt.out.cell 7
      have kt8 := HTWt.out.cell 8
      have kt9 := HTWt.out.cell 9
      have kt10 := HTWt.out.cell 10
      have kt11 := HTWt.out.cell 11
      have kt12 := HTWt.out.cell 12
      have kt13 := HTWt.out.cell 13
      have kt14 := HTWt.out.cell 14
      simp only [tabC, List.getElem?_cons_zero, List.getElem?_cons_succ] at kt0 kt1 kt2 kt3 kt4 kt5 kt6 kt7 kt8 kt9 kt10 kt11 kt12 kt13 kt14
      have b0 := HTWw.out.cell 0
      have b1 := HTWw.out.cell 1
      have b2 := HTWw.out.cell 2
      have b3 := HTWw.out.cell 3
      have b4 := HTWw.out.cell 4
      have b5 := HTWw.out.cell 5
      have b6 := HTWw.out.cell 6
      have b7 := HTWw.out.cell 7
      have b8 := HTWw.out.cell 8
      have b9 := HTWw.out.cell 9
      have bA := HTWw.out.cell 10
      have bB := HTWw.out.cell 11
      have bC := HTWw.out.cell 12
      simp only [worldC, List.getElem?_cons_zero, List.getElem?_cons_succ] at b0 b1 b2 b3 b4 b5 b6 b7 b8 b9 bA bB bC
      clear hnew
      have HNS5 := Lib.hid (str_newS w5 tt 9)
      have hz5 := HTW.out.bw.lt
      go_wp2_with (at_builtin; refine wpList_append_own _ rfl _ _ 22 rfl (w.heap.size + 2) 9 i0 (.string ⟨#[]⟩) 1 16 Tryd.underlying22 hi hi1 hi2 hi3 rfl (by decide) _ ([ti]).length (([ti]).map mkS) rfl HR5.out ⟨w5.heap.size, 0, none⟩ 1 1 [mkS tt] rfl rfl HNS5.out (ow_one rfl) (by unfold maxLen; simp) (by simp) (by omega) ?_; intro v6 w6 hown6 hgrow6 _; obtain ⟨g6, c6', rfl⟩ := ownsRow_succ hown6; have HR6 : Hid (OwnStrs (w.heap.size + 2) w6 (.slice (some ⟨g6, 0, none⟩) (([ti]).length + 1) c6') ([ti] ++ [tt])) := Lib.hid (by unfold OwnStrs; simpa using hown6); have HTW6 := Lib.hid (HTW.out.app HR5.out hgrow6); clear hown6 hgrow6; clear kt0 kt1 kt2 kt3 kt4 kt5 kt6 kt7 kt8 kt9 kt10 kt11 kt12 kt13 kt14; clear b0 b1 b2 b3 b4 b5 b6 b7 b8 b9 bA bB bC; clear HTWt HTWw HTW; have HTW := Lib.hid HTW6.out; have HTWt := Lib.hid HTW.out.bt; have HTWw := Lib.hid HTW.out.bw; have kt0 := HTWt.out.cell 0; have kt1 := HTWt.out.cell 1; have kt2 := HTWt.out.cell 2; have kt3 := HTWt.out.cell 3; have kt4 := HTWt.out.cell 4; have kt5 := HTWt.out.cell 5; have kt6 := HTWt.out.cell 6; have kt7 := HTWt.out.cell 7; have kt8 := HTWt.out.cell 8; have kt9 := HTWt.out.cell 9; have kt10 := HTWt.out.cell 10; have kt11 := HTWt.out.cell 11; have kt12 := HTWt.out.cell 12; have kt13 := HTWt.out.cell 13; have kt14 := HTWt.out.cell 14; simp only [tabC, List.getElem?_cons_zero, List.getElem?_cons_succ] at kt0 kt1 kt2 kt3 kt4 kt5 kt6 kt7 kt8 kt9 kt10 kt11 kt12 kt13 kt14; have b0 := HTWw.out.cell 0; have b1 := HTWw.out.cell 1; have b2 := HTWw.out.cell 2; have b3 := HTWw.out.cell 3; have b4 := HTWw.out.cell 4; have b5 := HTWw.out.cell 5; have b6 := HTWw.out.cell 6; have b7 := HTWw.out.cell 7; have b8 := HTWw.out.cell 8; have b9 := HTWw.out.cell 9; have bA := HTWw.out.cell 10; have bB := HTWw.out.cell 11; have bC := HTWw.out.cell 12; simp only [worldC, List.getElem?_cons_zero, List.getElem?_cons_succ] at b0 b1 b2 b3 b4 b5 b6 b7 b8 b9 bA bB bC)
      go_wp2_with fail
      refine (HLD.out _ HTW.out.bl).mono ?_
      rintro e w7 ⟨v7, rfl, how, hb7⟩
      obtain ⟨a7, c7, rfl⟩ := ow_shape how
      have hnew := HTW.out.below hb7
      have HR7 := Lib.hid (ow_below HR6.out hb7)
      clear how hb7
      clear kt0 kt1 kt2 kt3 kt4 kt5 kt6 kt7 kt8 kt9 kt10 kt11 kt12 kt13 kt14
      clear b0 b1 b2 b3 b4 b5 b6 b7 b8 b9 bA bB bC
      clear HTWt HTWw
      clear HTW
      have HTW := Lib.hid (hnew)
      have HTWt := Lib.hid HTW.out.bt
      have HTWw := Lib.hid HTW.out.bw
      have kt0 := HTWt.out.cell 0
      have kt1 := HTWt.out.cell 1
      have kt2 := HTWt.out.cell 2
      have kt3 := HTWt.out.cell 3
      have kt4 := HTWt.out.cell 4
      have kt5 := HTWt.out.cell 5
      have kt6 := HTWt.out.cell 6
      have kt7 := HTWt.out.cell 7
      have kt8 := HTWt.out.cell 8
      have kt9 := HTWt.out.cell 9
      have kt10 := HTWt.out.cell 10
      have kt11 := HTWt.out.cell 11
      have kt12 := HTWt.out.cell 12
      have kt13 := HTWt.out.cell 13
      have kt14 := HTWt.out.cell 14
      simp only [tabC, List.getElem?_cons_zero, List.getElem?_cons_succ] at kt0 kt1 kt2 kt3 kt4 kt5 kt6 kt7 kt8 kt9 kt10 kt11 kt12 kt13 kt14
      have b0 := HTWw.out.cell 0
      have b1 := HTWw.out.cell 1
      have b2 := HTWw.out.cell 2
      have b3 := HTWw.out.cell 3
      have b4 := HTWw.out.cell 4
      have b5 := HTWw.out.cell 5
      have b6 := HTWw.out.cell 6
      have b7 := HTWw.out.cell 7
      have b8 := HTWw.out.cell 8
      have b9 := HTWw.out.cell 9
      have bA := HTWw.out.cell 10
      have bB := HTWw.out.cell 11
      have bC := HTWw.out.cell 12
      simp only [worldC, List.getElem?_cons_zero, List.getElem?_cons_succ] at b0 b1 b2 b3 b4 b5 b6 b7 b8 b9 bA bB bC
      clear hnew
      cases ls with
      | nil =>
        go_wp2_with fail
        clear kt0 kt1 kt2 kt3 kt4 kt5 kt6 kt7 kt8 kt9 kt10 kt11 kt12 kt13 kt14
        clear b0 b1 b2 b3 b4 b5 b6 b7 b8 b9 bA bB bC
        clear HTWt HTWw
        have hbd : ∀ s ∈ [ti] ++ [tt], s.length ≤ 2000000 := by simp; omega
        refine (joinC (w.heap.size + 2) _ ([ti] ++ [tt]) [10] _ HR7.out (by simp) (by decide) hbd).mono ?_
        rintro e w9 ⟨rfl, rfl⟩
        have hjl := join_le (sep := [10]) (B := 2000000) (by decide) ([ti] ++ [tt]) hbd
        have HJE : Hid (joinL [10] ([ti] ++ [tt]) ++ [10] = joinL [10] lns ++ [10]) := Lib.hid (by rw [HLN.out]; simp [htx])
        have hjl2 : (joinL [10] ([ti] ++ [tt])).length ≤ 20000000 := Nat.le_trans hjl (by simp)
        clear hjl hbd
        unfold mkS
        generalize joinL [10] ([ti] ++ [tt]) = jj at *
        go_wp2
        go_ret
        exact ⟨by show Ending.returned (.string (_ ++ ⟨([10] : TxC).toArray⟩)) = _; rw [ba_app, HJE.out], HTW.out.bl⟩
      | cons l0 lt =>
        go_wp2_with fail
        refine (HLS.out _ HTW.out.bl).mono ?_
        rintro e w8 ⟨rfl, hb8⟩
        have hn8 := HTW.out.below hb8
        have HSE : Hid ((⟨#[89, 111, 117, 32, 115, 101, 101, 32]⟩ : ByteArray) ++ ⟨rl.toArray⟩ ++ ⟨#[46]⟩ = ⟨(seeL ++ rl ++ [46]).toArray⟩) := Lib.hid (by
          rw [show (⟨#[89, 111, 117, 32, 115, 101, 101, 32]⟩ : ByteArray) = ⟨seeL.toArray⟩ from rfl, show (⟨#[46]⟩ : ByteArray) = ⟨([46] : TxC).toArray⟩ from rfl, ba_app, ba_app])
        have hsl : (seeL ++ rl ++ [46]).length ≤ 1031000 := by simp [seeL]; omega
        generalize seeL ++ rl ++ [46] = sl at HSE HLN hsl
        have HR8 := Lib.hid ((ow_below HR7.out hb8).alloc (.cells #[.string ⟨sl.toArray⟩] 9))
        have hnew := hn8.below (bl_oneA w8 (.cells #[.string ⟨sl.toArray⟩] 9))
        clear hb8 hn8
        clear kt0 kt1 kt2 kt3 kt4 kt5 kt6 kt7 kt8 kt9 kt10 kt11 kt12 kt13 kt14
        clear b0 b1 b2 b3 b4 b5 b6 b7 b8 b9 bA bB bC
        clear HTWt HTWw
        clear HTW
        have HTW := Lib.hid (hnew)
        have HTWt := Lib.hid HTW.out.bt
        have HTWw := Lib.hid HTW.out.bw
        have kt0 := HTWt.out.cell 0
        have kt1 := HTWt.out.cell 1
        have kt2 := HTWt.out.cell 2
        have kt3 := HTWt.out.cell 3
        have kt4 := HTWt.out.cell 4
        have kt5 := HTWt.out.cell 5
        have kt6 := HTWt.out.cell 6
        have kt7 := HTWt.out.cell 7
        have kt8 := HTWt.out.cell 8
        have kt9 := HTWt.out.cell 9
        have kt10 := HTWt.out.cell 10
        have kt11 := HTWt.out.cell 11
        have kt12 := HTWt.out.cell 12
        have kt13 := HTWt.out.cell 13
        have kt14 := HTWt.out.cell 14
        simp only [tabC, List.getElem?_cons_zero, List.getElem?_cons_succ] at kt0 kt1 kt2 kt3 kt4 kt5 kt6 kt7 kt8 kt9 kt10 kt11 kt12 kt13 kt14
        have b0 := HTWw.out.cell 0
        have b1 := HTWw.out.cell 1
        have b2 := HTWw.out.cell 2
        have b3 := HTWw.out.cell 3
        have b4 := HTWw.out.cell 4
        have b5 := HTWw.out.cell 5
        have b6 := HTWw.out.cell 6
        have b7 := HTWw.out.cell 7
        have b8 := HTWw.out.cell 8
        have b9 := HTWw.out.cell 9
        have bA := HTWw.out.cell 10
        have bB := HTWw.out.cell 11
        have bC := HTWw.out.cell 12
        simp only [worldC, List.getElem?_cons_zero, List.getElem?_cons_succ] at b0 b1 b2 b3 b4 b5 b6 b7 b8 b9 bA bB bC
        clear hnew
        have hse := HSE.out
        have HNS := Lib.hid (str_newS w8 sl 9)
        have hz8 := HTW.out.bw.lt
        go_wp2_with (at_builtin; refine wpList_append_own _ rfl _ _ 22 rfl (w.heap.size + 2) 9 i0 (.string ⟨#[]⟩) 1 16 Tryd.underlying22 hi hi1 hi2 hi3 rfl (by decide) _ ([ti] ++ [tt]).length (([ti] ++ [tt]).map mkS) rfl HR8.out ⟨w8.heap.size, 0, none⟩ 1 1 [mkS sl] rfl rfl HNS.out (ow_one rfl) (by unfold maxLen; simp) (by simp) (by omega) ?_; intro v11 w11 hown11 hgrow11 _; obtain ⟨g11, c11', rfl⟩ := ownsRow_succ hown11; have HR11 : Hid (OwnStrs (w.heap.size + 2) w11 (.slice (some ⟨g11, 0, none⟩) (([ti] ++ [tt]).length + 1) c11') (([ti] ++ [tt]) ++ [sl])) := Lib.hid (by unfold OwnStrs; simpa using hown11); have HTW11 := Lib.hid (HTW.out.app HR8.out hgrow11); clear hown11 hgrow11)
        clear kt0 kt1 kt2 kt3 kt4 kt5 kt6 kt7 kt8 kt9 kt10 kt11 kt12 kt13 kt14
        clear b0 b1 b2 b3 b4 b5 b6 b7 b8 b9 bA bB bC
        clear HTWt HTWw
        have HTW := HTW11
        have hbd : ∀ s ∈ [ti] ++ [tt] ++ [sl], s.length ≤ 2000000 := by simp; omega
        refine (joinC (w.heap.size + 2) _ ([ti] ++ [tt] ++ [sl]) [10] _ HR11.out (by simp) (by decide) hbd).mono ?_
        rintro e w9 ⟨rfl, rfl⟩
        have hjl := join_le (sep := [10]) (B := 2000000) (by decide) ([ti] ++ [tt] ++ [sl]) hbd
        have HJE : Hid (joinL [10] ([ti] ++ [tt] ++ [sl]) ++ [10] = joinL [10] lns ++ [10]) := Lib.hid (by rw [HLN.out]; simp [htx])
        have hjl2 : (joinL [10] ([ti] ++ [tt] ++ [sl])).length ≤ 20000000 := Nat.le_trans hjl (by simp)
        clear hjl hbd
        unfold mkS
        generalize joinL [10] ([ti] ++ [tt] ++ [sl]) = jj at *
        go_wp2
        go_ret
        exact ⟨by show Ending.returned (.string (_ ++ ⟨([10] : TxC).toArray⟩)) = _; rw [ba_app, HJE.out], HTW.out.bl⟩
end Go.Proofs.YtjnpinfnpnohmaaDoor
