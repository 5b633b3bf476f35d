/- Assemble's label: the law of a scope with one label, the frame at it, the measure. Printed in part by a program.; Contract of asm.Assemble, in parts: what its region lays.; Contract of asm.Assemble where something is wrong; a contract for every list. -/
import Derived.Test.YtbcpopakdlplgaaDoorAsmY
import Derived.Laws.AppendOwnNone
import Derived.ScopeJumps
import Derived.WalkMore
import Derived.Deep.AppendLies
import Derived.Deep.OwnRows
import Derived.Deep.DeepCutAuto
namespace Go.Proofs.YtbcpopakdlplgaaDoor
open Go.RowKit Go.PlainAid Go.Maps
set_option linter.unusedVariables false
set_option linter.unusedSimpArgs false

/-- A scope with one label, come to once from ahead and then by jumps: what stands behind the label is walked once. -/
theorem wp_scope_label {P : Program} {c rest : Code} {Q : Exit → Act → World → Prop} {a : Act} {w : World} (l : Nat) (J : Act → World → Prop) (μ : Act → World → Nat) (hf : findLabel c l = some (Code.skip.seq rest))
    (pass : ∀ a w, J a w → rest.wp P (Exit.jump l (fun a' w' => J a' w' ∧ μ a' w' < μ a w) Q) a w)
    (first : (∀ a w, J a w → rest.wp P (Exit.jump l J Q) a w) → c.wp P (Exit.jump l J Q) a w) : (Code.scope c).wp P Q a w :=
  wp_scope_jumps l J μ hf (first fun a w hJ => wp_mono (pass a w hJ) fun e a' w' h => by
    cases e with
    | goto k => exact ⟨h.1, h.2.1⟩
    | _ => exact h) (fun a w hJ => wp_seq (wp_skip (pass a w hJ)))
/-- The frame at the label. -/
def AsmFr (a : Option Addr) (n c gs : Nat) (fr : Act) : Prop := fr.defers = [] ∧ fr.tmps.size = 122 ∧ fr.tmps.getD 0 undef = .slice a n c ∧ fr.tmps.getD 5 undef = .pointer (some ⟨gs, 0, none⟩)
theorem range_map (L : List Value) : (List.range L.length).map (fun i => L.getD i undef) = L := by
  refine List.ext_getElem (by simp) fun i h1 h2 => ?_
  simp [h2]
theorem range_122 (q : Nat → Value) : (List.range 122).map q = [q 0, q 1, q 2, q 3, q 4, q 5, q 6, q 7, q 8, q 9, q 10, q 11, q 12, q 13, q 14, q 15, q 16, q 17, q 18, q 19, q 20, q 21, q 22, q 23, q 24, q 25, q 26, q 27, q 28, q 29, q 30, q 31, q 32, q 33, q 34, q 35, q 36, q 37, q 38, q 39, q 40, q 41, q 42, q 43, q 44, q 45, q 46, q 47, q 48, q 49, q 50, q 51, q 52, q 53, q 54, q 55, q 56, q 57, q 58, q 59, q 60, q 61, q 62, q 63, q 64, q 65, q 66, q 67, q 68, q 69, q 70, q 71, q 72, q 73, q 74, q 75, q 76, q 77, q 78, q 79, q 80, q 81, q 82, q 83, q 84, q 85, q 86, q 87, q 88, q 89, q 90, q 91, q 92, q 93, q 94, q 95, q 96, q 97, q 98, q 99, q 100, q 101, q 102, q 103, q 104, q 105, q 106, q 107, q 108, q 109, q 110, q 111, q 112, q 113, q 114, q 115, q 116, q 117, q 118, q 119, q 120, q 121] := rfl
theorem fr_open {a : Option Addr} {n c gs : Nat} {fr : Act} (h : AsmFr a n c gs fr) : ∃ q : Nat → Value, fr = { tmps := #[.slice a n c, q 1, q 2, q 3, q 4, .pointer (some ⟨gs, 0, none⟩), q 6, q 7, q 8, q 9, q 10, q 11, q 12, q 13, q 14, q 15, q 16, q 17, q 18, q 19, q 20, q 21, q 22, q 23, q 24, q 25, q 26, q 27, q 28, q 29, q 30, q 31, q 32, q 33, q 34, q 35, q 36, q 37, q 38, q 39, q 40, q 41, q 42, q 43, q 44, q 45, q 46, q 47, q 48, q 49, q 50, q 51, q 52, q 53, q 54, q 55, q 56, q 57, q 58, q 59, q 60, q 61, q 62, q 63, q 64, q 65, q 66, q 67, q 68, q 69, q 70, q 71, q 72, q 73, q 74, q 75, q 76, q 77, q 78, q 79, q 80, q 81, q 82, q 83, q 84, q 85, q 86, q 87, q 88, q 89, q 90, q 91, q 92, q 93, q 94, q 95, q 96, q 97, q 98, q 99, q 100, q 101, q 102, q 103, q 104, q 105, q 106, q 107, q 108, q 109, q 110, q 111, q 112, q 113, q 114, q 115, q 116, q 117, q 118, q 119, q 120, q 121], defers := [] } := by
  obtain ⟨h1, h2, h3, h4⟩ := h
  cases fr with
  | mk tmps defers =>
    obtain ⟨L⟩ := tmps
    have hL : L.length = 122 := h2
    have e := range_map L
    rw [hL, range_122] at e
    have e0 : L.getD 0 undef = .slice a n c := by simpa using h3
    have e5 : L.getD 5 undef = .pointer (some ⟨gs, 0, none⟩) := by simpa using h4
    refine ⟨fun i => L.getD i undef, ?_⟩
    rw [e0, e5] at e
    have h1' : defers = [] := h1
    rw [h1']
    exact congrArg (fun l : List Value => ({ tmps := l.toArray, defers := [] } : Act)) e.symm
theorem fr_five {a : Option Addr} {n c gs : Nat} {fr : Act} (h : AsmFr a n c gs fr) : fr.tmps.getD 5 undef = .pointer (some ⟨gs, 0, none⟩) := h.2.2.2
/-- The sum of the sizes, read off the memory. -/
def zOf (n : Nat) (fr : Act) (wx : World) : Nat := match fr.tmps.getD 5 undef with
  | .pointer (some p) => match wx.cell? ⟨p.block, 1, none⟩ with
    | some (.slice (some q) _ _) => sumN (fun i => (intOf ((wx.cell? ⟨q.block, i, none⟩).getD undef)).toNat) n
    | _ => 0
  | _ => 0
theorem sumN_congr {f g : Nat → Nat} : ∀ n, (∀ i, i < n → f i = g i) → sumN f n = sumN g n
  | 0, _ => rfl
  | n + 1, h => by rw [sumN, sumN, sumN_congr n (fun i hi => h i (by omega)), h n (by omega)]
theorem zOf_is {w : World} {B gs gz ga gm n c : Nat} {ad : Option Addr} {W : Nat → Nat} {A : Nat → Int} {ps : List (Int × Int)} {nm : Nat} (h : LayIs w B gs gz ga gm n c ad W A ps nm) {fr : Act} (hf : fr.tmps.getD 5 undef = .pointer (some ⟨gs, 0, none⟩)) : zOf n fr w = sumN W n := by
  unfold zOf
  rw [hf]
  simp only [h.cells.2.1]
  refine sumN_congr n fun i hi => ?_
  have := h.sz.cell i
  rw [rowF_at hi] at this
  rw [this]
  simp [intOf]
theorem sum_three {W : Nat → Nat} (h : ∀ i, W i ≤ 3) : ∀ n, sumN W n ≤ 3 * n
  | 0 => Nat.le_refl _
  | n + 1 => by have := sum_three h n; have := h n; rw [sumN]; omega
theorem sum_le {f g : Nat → Nat} : ∀ n, (∀ i, i < n → f i ≤ g i) → sumN f n ≤ sumN g n
  | 0, _ => Nat.le_refl _
  | n + 1, h => by have := sum_le (f := f) (g := g) n (fun i hi => h i (by omega)); have := h n (by omega); rw [sumN, sumN]; omega
/-- A sweep that changed something made the sizes more. -/
theorem WS_lt {l : List IN} {S : Nat → Nat} (hT : Tight encN (atI l) (tgtN l) S) (h : swK l S l.length ≠ S) : sumN (WS l S) l.length < sumN (WS l (swK l S l.length)) l.length := by
  have h1 : sumN S l.length < sumN (swK l S l.length) l.length := sweep_lt h
  have hup : ∀ i, S i ≤ swK l S l.length i := fun i => sweepN_up _ _ _ S l.length i
  have hT2 : Tight encN (atI l) (tgtN l) (swK l S l.length) := sweepN_tight _ _ _ hT _
  obtain ⟨k, hk, hlt⟩ : ∃ k, k < l.length ∧ S k < swK l S l.length k := by
    rcases Classical.em (∃ k, k < l.length ∧ S k < swK l S l.length k) with h2 | h2
    · exact h2
    · exfalso
      have := sum_le (f := swK l S l.length) (g := S) l.length (fun i hi => Nat.le_of_not_lt fun h3 => h2 ⟨i, hi, h3⟩)
      omega
  have hj : isJ (atI l k) = true := by
    have := hT2 k
    cases hx : isJ (atI l k) with
    | true => rfl
    | false => rw [hx, if_neg (by simp)] at this; omega
  refine sumN_lt (fun i => widN_up _ _ hup i) k ?_ l.length hk
  unfold widN
  rw [if_pos hj, if_pos hj]; omega
/-- What holds at the label. -/
def AsmJ (w : World) (l : List IN) (a : Option Addr) (n c : Nat) (fr : Act) (wx : World) : Prop := ∃ (gs gz ga gm B : Nat) (S : Nat → Nat) (A : Nat → Int) (ps : List (Int × Int)) (nm : Nat),
  AsmFr a n c gs fr ∧ Hid (LayIs wx B gs gz ga gm n c a (WS l S) A ps nm) ∧ Hid (AsmWay l S) ∧ Hid (nm ≤ n * n * sumN S n) ∧ Hid (Below w.heap.size w wx) ∧ B ≤ wx.heap.size ∧ w.heap.size ≤ B ∧ Hid (∀ b off, a = some ⟨b, off, none⟩ → 0 < n → b < B)
theorem LayIs.grown {w w' : World} {B gs gz ga gm n c : Nat} {ad : Option Addr} {W : Nat → Nat} {A : Nat → Int} {ps : List (Int × Int)} {nm : Nat} (h : LayIs w B gs gz ga gm n c ad W A ps nm) {row : Option Nat} (hg : w.grownBy w' row) (hr : ∀ j, row = some j → j ≠ gs ∧ j ≠ gz ∧ j ≠ ga ∧ j ≠ gm) : LayIs w' B gs gz ga gm n c ad W A ps nm :=
  { h with st := h.st.kept hg (fun j hj => (hr j hj).1), sz := h.sz.kept hg (fun j hj => (hr j hj).2.1), pl := h.pl.kept hg (fun j hj => (hr j hj).2.2.1), mp := h.mp.kept hg (fun e => (hr gm e).2.2.2 rfl) }
/-- Encode of a label: nothing. -/
theorem encC_L (x : IN) (hx : isL x = true) (w : World) : Calls Tryd.prog 21 #[insV x] w fun e w' => e = .returned (.slice none 0 0) ∧ Below w.heap.size w w' := by
  have h38 : x.op = 38 := by unfold isL at hx; simpa using hx
  unfold insV
  rw [h38]
  go_enter Tryd.func21, Tryd.ntmps21
  go_wp2_with (first | (go_at_call 48; refine (knownY _ _ (by omega) (by omega)).mono ?_; rintro e w' ⟨rfl, rfl⟩))
  go_ret
  exact ⟨rfl, bl_a (Below.refl _ _) _⟩
/-- Encode of what is none: where its bytes lie. -/
theorem encC_S (x : IN) (hx : opOk x.op) (w : World) : Calls Tryd.prog 21 #[insV x] w fun e w' => ∃ g c, e = .returned (.slice (some ⟨g, 0, none⟩) (encI x).length c) ∧ (∀ i (hi : i < (encI x).length), w'.cell? ⟨g, 0 + i, none⟩ = some (byteV (encI x)[i])) ∧ Below w.heap.size w w' :=
  (encC x w).mono fun e w' ⟨v, h1, h2, h3⟩ => by
    have hlen : 0 < (encI x).length := by rw [encI_ok hx]; simp [encS]
    rcases h2.2 with ⟨_, h0⟩ | ⟨g, cap, cur, hv, _⟩
    · omega
    · subst hv
      refine ⟨g, cap, h1, fun i hi => ?_, h3⟩
      have := World.ownsRow.cellAt h2 i (by omega)
      rw [Nat.zero_add, this, List.getElem?_map, List.getElem?_eq_getElem hi]; rfl
/-- An append, at a step of a region that draws: whatever is appended, where something stands afterwards. -/
theorem step_append_lies0 {P : Program} {w : World} {ops : Array Oper} {o : Oper} {a : Act} {K : Act → World → Prop} {Q : Exit → Act → World → Prop} {E : Prop} (hgd : o.guard = none) (s x : Operand) (t : TypeId)
    (ho : o.op = .call { callee := .builtin .append, args := #[s, x], argTypes := #[t, t] })
    (base : Nat) (e : TypeId) (i : TypeInfo) (z : Value) (size bytes : Nat) (ht : P.underlying t = some (.slice e)) (hi : P.info? e = some i) (hz : i.zero = some z)
    (hsize : i.size = size) (hby : i.bytes = bytes) (hzs : z.cells.size = size) (hsz : 0 < size)
    (v : Value) (n : Nat) (xs : List Value) (hs : a.eval s = v) (hown : w.ownsRow base e size v n xs)
    (ad : Addr) (m c : Nat) (news : List Value) (hx : a.eval x = .slice (some ad) m c) (hl : news.length = m * size) (hnews : ∀ j u, news[j]? = some u → w.cell? (ad.add j) = some u) (h1 : ∀ u ∈ news, u.oneCell' = true)
    (hm : 0 < n + m) (h63 : n + m ≤ maxLen) (hbytes : (n + m) * bytes ≤ 140737488355328) (hbase : base ≤ w.heap.size)
    (h : ∀ g cap w', w'.ownsRow base e size (.slice (some ⟨g, 0, none⟩) (n + m) cap) (n + m) (xs ++ news) → w.grownBy w' v.ownBlock → K (a.put o.dst (.slice (some ⟨g, 0, none⟩) (n + m) cap)) w') :
    if Region.wanted o (yielded ops a.tmps) = true then Oper.wp P o a w K Q else E := by
  have hw : Region.wanted o (yielded ops a.tmps) = true := by simp [Region.wanted, hgd]
  rw [if_pos hw]
  obtain ⟨v', w', hr, h2, h3, _⟩ := run_append_own (P := P) w base t o.type e i z size bytes ht hi hz hsize hby hzs hsz v n xs hown ad m c news hl hnews h1 h63 hbytes hbase
  obtain ⟨g, cap, rfl, _, _⟩ := h2.form hm
  unfold Oper.wp execOp
  simp only [ho, resolve, invoke, builtin, Sem.run_bind, Sem.run_pure, Result.andThen_ok, List.map_toArray, List.map_cons, List.map_nil, hs, hx, hr]
  exact h g cap w' h2 h3
/-- The bytes of a jump's argument, read off a row of two. -/
theorem arg_news {f : Int} {s o : Nat} (hs : s ≤ 2) (ho : s = 0 ∨ o + s = 2) {w : World} {k : Nat} {T : TypeId} (h : BK w k [.int .u8 (f / 256 % 256), .int .u8 (f % 256)] T) :
    ∀ j u, ((argB f s).map byteV)[j]? = some u → w.cell? ((⟨k, o, none⟩ : Addr).add j) = some u := by
  intro j u hu
  rw [addr_addC, h.cell]
  rcases (show s = 0 ∨ s = 1 ∨ s = 2 by omega) with rfl | rfl | rfl
  · simp [argB] at hu
  · obtain rfl : o = 1 := by omega
    have : j = 0 := by
      have := (List.getElem?_eq_some_iff.1 hu).1
      simp [argB] at this; exact this
    subst this
    simp [argB, byteV, by8_nat] at hu ⊢
    exact hu
  · obtain rfl : o = 0 := by omega
    have : j = 0 ∨ j = 1 := by
      have := (List.getElem?_eq_some_iff.1 hu).1
      simp [argB] at this; omega
    rcases this with rfl | rfl <;> simp [argB, byteV, by8_nat] at hu ⊢ <;> exact hu
theorem enc_own {w : World} {Z : Nat} {v : Value} {L : List UInt8} {p s : Nat} {op f c : Int} (hp : L.length = p) (hs : s ≤ 2) (hc : c = (4 * op + s) % 256)
    (h : w.ownsRow Z 5 1 v (p + 1 + s) ((L.map byteV ++ [.int .u8 c]) ++ (argB f s).map byteV)) : OwB w Z v (L ++ encS op f s) := by
  unfold OwB
  have h1 : (L ++ encS op f s).length = p + 1 + s := by rw [List.length_append, encS_len _ _ _ hs, hp]; omega
  have h2 : (L ++ encS op f s).map byteV = (L.map byteV ++ [.int .u8 c]) ++ (argB f s).map byteV := by
    subst hc; simp [encS, byteV, by8_nat]
  rw [h1, h2]; exact h
theorem ow_hi {w : World} {base : Nat} {e : TypeId} {size : Nat} {v : Value} {n : Nat} {xs : List Value} (h : w.ownsRow base e size v n xs) : ∀ k, v.ownBlock = some k → k < w.heap.size := fun k hk => (h.lt k hk).2
end Go.Proofs.YtbcpopakdlplgaaDoor
namespace Go.Proofs.YtbcpopakdlplgaaDoor
open Go.RowKit Go.PlainAid Go.Maps
set_option linter.unusedVariables false
set_option linter.unusedSimpArgs false

theorem made_row (n : Nat) : madeCells #[.int .i64 0] n = (rowF n (fun _ => 0)).toArray := by
  apply Array.ext
  · simp [madeCells, rowF_len]
  · intro i h1 h2
    simp [madeCells, rowF, Nat.mod_one]
theorem bk_0 (w : World) (cs : List Value) (T : TypeId) (o1 o2 o3 : Obj) : BK ((((w.alloc (.cells cs.toArray T)).alloc o1).alloc o2).alloc o3) w.heap.size cs T := (((BK.new w cs T).alloc o1).alloc o2).alloc o3
theorem bk_1 (w : World) (cs : List Value) (T : TypeId) (o0 o2 o3 : Obj) : BK ((((w.alloc o0).alloc (.cells cs.toArray T)).alloc o2).alloc o3) (w.heap.size + 1) cs T := by
  have := ((BK.new (w.alloc o0) cs T).alloc o2).alloc o3
  rw [World.size_alloc] at this; exact this
theorem bk_2 (w : World) (cs : List Value) (T : TypeId) (o0 o1 o3 : Obj) : BK ((((w.alloc o0).alloc o1).alloc (.cells cs.toArray T)).alloc o3) (w.heap.size + 1 + 1) cs T := by
  have := (BK.new ((w.alloc o0).alloc o1) cs T).alloc o3
  rw [World.size_alloc, World.size_alloc] at this; exact this
theorem bk_3 (w : World) (cs : List Value) (T : TypeId) (o0 o1 o2 : Obj) : BK ((((w.alloc o0).alloc o1).alloc o2).alloc (.cells cs.toArray T)) (w.heap.size + 1 + 1 + 1) cs T := by
  have := BK.new (((w.alloc o0).alloc o1).alloc o2) cs T
  rw [World.size_alloc, World.size_alloc, World.size_alloc] at this; exact this
theorem nm_0 (w : World) (o1 o2 o3 : Obj) : NumIs ((((w.alloc (.map #[] 0)).alloc o1).alloc o2).alloc o3) w.heap.size 0 [] := (NumIs.new w).below (bl_a (bl_a (bl_a (Below.refl _ _) o1) o2) o3)
theorem nm_1 (w : World) (o0 o2 o3 : Obj) : NumIs ((((w.alloc o0).alloc (.map #[] 0)).alloc o2).alloc o3) (w.heap.size + 1) 0 [] := by
  have := (NumIs.new (w.alloc o0)).below (bl_a (bl_a (Below.refl _ _) o2) o3)
  rw [World.size_alloc] at this; exact this
theorem nm_2 (w : World) (o0 o1 o3 : Obj) : NumIs ((((w.alloc o0).alloc o1).alloc (.map #[] 0)).alloc o3) (w.heap.size + 1 + 1) 0 [] := by
  have := (NumIs.new ((w.alloc o0).alloc o1)).below (bl_a (Below.refl _ _) o3)
  rw [World.size_alloc, World.size_alloc] at this; exact this
theorem encC' (x : IN) (w : World) : Calls Tryd.prog 21 #[insV x] w fun e w' => ∃ a c, e = .returned (.slice a (encI x).length c) ∧ OwB w' w.heap.size (.slice a (encI x).length c) (encI x) ∧ Below w.heap.size w w' :=
  (encC x w).mono fun e w' ⟨v, h1, h2, h3⟩ => by
    obtain ⟨a, c, hv⟩ := ow_shape h2
    subst hv
    exact ⟨a, c, h1, h2, h3⟩
theorem encC_E (x : IN) (E : List UInt8) (m : Nat) (hx : opOk x.op) (hE : encI x = E) (hm : E.length = m) (w : World) : Calls Tryd.prog 21 #[insV x] w fun e w' => ∃ g c, e = .returned (.slice (some ⟨g, 0, none⟩) m c) ∧ (∀ i (hi : i < E.length), w'.cell? ⟨g, 0 + i, none⟩ = some (byteV E[i])) ∧ Below w.heap.size w w' := by
  subst hE; subst hm
  exact encC_S x hx w
set_option maxRecDepth 100000 in
set_option maxHeartbeats 8000000 in
theorem asmOk (v : Value) (l : List IN) (w : World) (hr : Reads Cd.ins.seq w v l) (hl : l.length ≤ 1000) (hw0 : wrongP l = 0) :
    Calls Tryd.prog 14 #[v] w fun e w' => ∃ b v', asmP l = .inr b ∧ e = .returned (.tuple #[v', .int .i64 0]) ∧ OwB w' w.heap.size v' b ∧ Below w.heap.size w w' := by
  obtain ⟨a, c, hv, hcap, _⟩ := hr.len
  subst hv
  have HR := Lib.hid hr
  have HC := Lib.hid (cells_of hr).1
  have HWR := Lib.hid (fun w h => wrongC (.slice a l.length c) l w h (by omega))
  rw [hw0] at HWR
  have HO := Lib.hid (wrong_ok hw0).1
  have HOK := Lib.hid (wrong_ok hw0).2
  have HAP := Lib.hid (fun S h => asmP_sz (l := l) (S := S) h hw0)
  obtain ⟨n, hn⟩ : ∃ n, l.length = n := ⟨_, rfl⟩
  have HN := Lib.hid hn
  rw [hn] at hl hcap HR HWR ⊢
  clear hr hn hw0
  have hmm := @run_makeMap Tryd.prog
  have hmk := fun w => run_make_row' (P := Tryd.prog) 50 3 (.int .i64 0) 8 Tryd.underlying50 Tryd.infoInt rfl .i64 .i64 n (by omega) (by omega) w
  have hmk1 := fun w => run_make_row' (P := Tryd.prog) 50 3 (.int .i64 0) 8 Tryd.underlying50 Tryd.infoInt rfl .i64 .i64 (n + 1) (by omega) (by omega) w
  rw [show (((n + 1 : Nat)) : Int) = (n : Int) + 1 from by omega] at hmk1
  have hs1 : IntKind.i64.wrap ((n : Int) + 1) = (n : Int) + 1 := IntWalk.i64_in _ (by omega)
  go_enter Tryd.func14, Tryd.ntmps14
  go_wp2_with fail
  refine wp_scope_label 0 (AsmJ w l a n c) (fun fr wx => 3 * n - zOf n fr wx) rfl ?_ (fun HJ0 => ?_)
  rotate_left
  have HJ := Lib.hid HJ0
  clear HJ0
  · go_wp2_with (go_at_call 28; refine (HWR.out _ HR.out).mono ?_; rintro e w1 ⟨rfl, hb1⟩)
    have HB1 := Lib.hid hb1
    clear hb1
    go_cut [5] (fun s5 wx => ∃ gs gz ga gm, s5 = .pointer (some ⟨gs, 0, none⟩) ∧ Hid (LayIs wx w1.heap.size gs gz ga gm n c a (fun _ => 0) (fun _ => 0) [] 0) ∧ Hid (Below w1.heap.size w1 wx))
    case first =>
      rw [made_row] at hmk hmk1
      go_region_held3 (fun w' => True) (trivial) (fail)
      all_goals (go_wp2_with fail)
      all_goals (go_meet)
      all_goals first
        | exact ⟨_, _, _, _, rfl, Lib.hid { st := bk_3 _ _ _ _ _ _, sz := bk_0 _ _ _ _ _ _, pl := bk_1 _ _ _ _ _ _, mp := nm_2 _ _ _ _, d1 := by omega, d2 := by omega, d3 := by omega, d4 := by omega, d5 := by omega, d6 := by omega, b1 := by omega, b2 := by omega, b3 := by omega, b4 := by omega }, Lib.hid ((bl_a (bl_a (bl_a (bl_a (Below.refl _ _) _) _) _) _).drew)⟩
        | exact ⟨_, _, _, _, rfl, Lib.hid { st := bk_3 _ _ _ _ _ _, sz := bk_1 _ _ _ _ _ _, pl := bk_0 _ _ _ _ _ _, mp := nm_2 _ _ _ _, d1 := by omega, d2 := by omega, d3 := by omega, d4 := by omega, d5 := by omega, d6 := by omega, b1 := by omega, b2 := by omega, b3 := by omega, b4 := by omega }, Lib.hid ((bl_a (bl_a (bl_a (bl_a (Below.refl _ _) _) _) _) _).drew)⟩
        | exact ⟨_, _, _, _, rfl, Lib.hid { st := bk_3 _ _ _ _ _ _, sz := bk_0 _ _ _ _ _ _, pl := bk_2 _ _ _ _ _ _, mp := nm_1 _ _ _ _, d1 := by omega, d2 := by omega, d3 := by omega, d4 := by omega, d5 := by omega, d6 := by omega, b1 := by omega, b2 := by omega, b3 := by omega, b4 := by omega }, Lib.hid ((bl_a (bl_a (bl_a (bl_a (Below.refl _ _) _) _) _) _).drew)⟩
        | exact ⟨_, _, _, _, rfl, Lib.hid { st := bk_3 _ _ _ _ _ _, sz := bk_2 _ _ _ _ _ _, pl := bk_0 _ _ _ _ _ _, mp := nm_1 _ _ _ _, d1 := by omega, d2 := by omega, d3 := by omega, d4 := by omega, d5 := by omega, d6 := by omega, b1 := by omega, b2 := by omega, b3 := by omega, b4 := by omega }, Lib.hid ((bl_a (bl_a (bl_a (bl_a (Below.refl _ _) _) _) _) _).drew)⟩
        | exact ⟨_, _, _, _, rfl, Lib.hid { st := bk_3 _ _ _ _ _ _, sz := bk_1 _ _ _ _ _ _, pl := bk_2 _ _ _ _ _ _, mp := nm_0 _ _ _ _, d1 := by omega, d2 := by omega, d3 := by omega, d4 := by omega, d5 := by omega, d6 := by omega, b1 := by omega, b2 := by omega, b3 := by omega, b4 := by omega }, Lib.hid ((bl_a (bl_a (bl_a (bl_a (Below.refl _ _) _) _) _) _).drew)⟩
        | exact ⟨_, _, _, _, rfl, Lib.hid { st := bk_3 _ _ _ _ _ _, sz := bk_2 _ _ _ _ _ _, pl := bk_1 _ _ _ _ _ _, mp := nm_0 _ _ _ _, d1 := by omega, d2 := by omega, d3 := by omega, d4 := by omega, d5 := by omega, d6 := by omega, b1 := by omega, b2 := by omega, b3 := by omega, b4 := by omega }, Lib.hid ((bl_a (bl_a (bl_a (bl_a (Below.refl _ _) _) _) _) _).drew)⟩
    case rest =>
      obtain ⟨gs, gz, ga, gm, rfl, HL, HB2⟩ := hcut
      have HCc := Lib.hid ((HC.out.below HB1.out).below HB2.out)
      have HAB : Hid (∀ b off, a = some ⟨b, off, none⟩ → 0 < n → b < w1.heap.size) := Lib.hid (fun b off e h0 => by
        obtain ⟨b', off', e', hb', _⟩ := (HC.out.below HB1.out) 0 (by rw [HN.out]; exact h0)
        rw [e'] at e; simp at e; omega)
      have HWB : Hid (Below w.heap.size w wc) := Lib.hid (bl_thenA HB1.out HB2.out)
      have hzB : w1.heap.size ≤ wc.heap.size := HB2.out.size
      have hzw : w.heap.size ≤ w1.heap.size := HB1.out.size
      obtain ⟨B, hB⟩ : ∃ B, w1.heap.size = B := ⟨_, rfl⟩
      rw [hB] at HL HB2 HAB hzB hzw
      clear hB
      go_wp2_with fail
      go_loopw [31] (fun i wr => ∃ k : Nat, i = .int .i64 k ∧ k ≤ n ∧ B ≤ wr.heap.size ∧ Hid (LayIs wr B gs gz ga gm n c a (fun i => if i < k then WS l (fun _ => 0) i else 0) (fun _ => 0) [] 0) ∧ Hid (Below w.heap.size w wr) ∧ Hid (CellsI wr a l)) (fun i _ => n - (intOf i).toNat)
      case atStart => exact ⟨0, rfl, Nat.zero_le _, hzB, Lib.hid (by simpa using HL.out), HWB, HCc⟩
      case round =>
        obtain ⟨k, rfl, hk, hBz, HLr, HWr, HCr⟩ := hrel
        by_cases hlt : k < n
        · have hkl : k < l.length := by rw [HN.out]; exact hlt
          obtain ⟨b, off, ha, hblt, hw, hx0, hx1⟩ := HCr.out k hkl
          have hat : atI l k = l[k] := atI_get hkl
          subst ha
          have hk0 : (0 : Int) ≤ (k : Int) := by omega
          have hk1 : (k : Int) < (n : Int) := by omega
          obtain ⟨x, hx⟩ : ∃ x, l[k] = x := ⟨_, rfl⟩
          rw [hx] at hw hx0 hx1 hat
          have HAT := Lib.hid hat
          clear hat hx
          obtain ⟨W1, hW1⟩ : ∃ W1, wr.alloc (.cells #[.int .i64 x.op, .int .i64 x.arg] 37) = W1 := ⟨_, rfl⟩
          have HL1 : Hid (LayIs W1 B gs gz ga gm n c _ (fun i => if i < k then WS l (fun _ => 0) i else 0) (fun _ => 0) [] 0) := Lib.hid (by rw [← hW1]; exact HLr.out.below (bl_one wr _))
          have HK1 : Hid (BK W1 wr.heap.size [.int .i64 x.op, .int .i64 x.arg] 37) := Lib.hid (by rw [← hW1]; exact BK.new wr _ _)
          have HBW1 : Hid (Below wr.heap.size wr W1) := Lib.hid (by rw [← hW1]; exact bl_one wr _)
          have hsz1 : wr.heap.size < W1.heap.size := HK1.out.lt
          obtain ⟨d0, d1, d2, d3⟩ := HL1.out.cells
          have d4 := HL1.out.sz.cell k
          rw [rowF_at hlt] at d4
          have d5 := HL1.out.sz.fr k
          have z0 := HK1.out.cell 0
          have z1 := HK1.out.cell 1
          simp only [List.getElem?_cons_zero, List.getElem?_cons_succ] at z0 z1
          have HE := Lib.hid (fun w => encC' x w)
          cases hj : isJ x with
          | false =>
            have HAj := Lib.hid (fun w => asksC2 x false hj w)
            have HW2 : Hid ((fun i => if i = k then (encI x).length else (fun i => if i < k then WS l (fun _ => 0) i else 0) i) = fun i => if i < k + 1 then WS l (fun _ => 0) i else 0) := Lib.hid (by
              funext i
              by_cases e : i = k
              · subst e; simp [WS, widN, HAT.out, hj, encN]
              · by_cases h : i < k
                · simp [e, h, show i < k + 1 by omega]
                · simp [e, h, show ¬ i < k + 1 by omega])
            clear hj
            go_wp2_with fail
            go_region_held3 (fun w' => w'.cell? ⟨gs, 1, none⟩ = some (.slice (some ⟨gz, 0, none⟩) n n) ∧ w'.cell? ⟨wr.heap.size, 0, none⟩ = some (.int .i64 x.op) ∧ w'.cell? ⟨wr.heap.size, 1, none⟩ = some (.int .i64 x.arg)) (first | (refine ⟨?_, ?_, ?_⟩ <;> assumption) | (go_keep; done)) (first | ((go_at_call 21; refine (HE.out _).mono ?_; rintro e w2 ⟨va, vc, rfl, hO2, hB2⟩; have HL2 := Lib.hid (HL1.out.drew.below hB2); have HK2 := Lib.hid ((HK1.out.drewN 1).below hB2); have HBW2 := Lib.hid (bl_thenA HBW1.out.drew hB2); have hzz2 := HBW2.out.size; obtain ⟨i0, i1, i2, i3⟩ := HL2.out.cells; have i4 := HL2.out.sz.cell k; rw [rowF_at hlt] at i4; have i5 := HL2.out.sz.fr k; have j0 := HK2.out.cell 0; have j1 := HK2.out.cell 1; simp only [List.getElem?_cons_zero, List.getElem?_cons_succ] at j0 j1; have HL3 := Lib.hid (HL2.out.setZ k (encI x).length); have HK3 := Lib.hid (HK2.out.setO (b := gz) (by have := HLr.out.sz.lt; omega) k (.int .i64 ((encI x).length : Int))); have HB3 := Lib.hid ((HWr.out.trans (HBW2.out.mono (by omega))).setCell (by have := HLr.out.b2; show _ ≤ gz; omega) (.int .i64 ((encI x).length : Int)) (p := ⟨gz, k, none⟩)); obtain ⟨m0, m1, m2, m3⟩ := HL3.out.cells; have m4 := HL3.out.sz.cell k; rw [rowF_at hlt] at m4; have m5 := HL3.out.sz.fr k; have n0 := HK3.out.cell 0; have n1 := HK3.out.cell 1; simp only [List.getElem?_cons_zero, List.getElem?_cons_succ] at n0 n1; clear hO2 hB2)) | (fail))
            go_wp2_with (go_at_call 23; refine (HAj.out _).mono ?_; rintro e w3 ⟨rfl, hb3⟩; have HL4 := Lib.hid (HL3.out.below hb3); have HB4 := Lib.hid (HB3.out.trans (hb3.mono (by simp [World.setCell]; omega))); have hzz3 := hb3.size)
            have hzf : B ≤ w3.heap.size := by simp [World.setCell] at hzz3; omega
            rw [HW2.out] at HL4
            go_roundw
            case rel => exact ⟨k + 1, by go_num, by omega, hzf, HL4, HB4, Lib.hid (HC.out.below HB4.out)⟩
            case measure => simp [intOf]; omega
          | true =>
            have HAj := Lib.hid (fun w => asksC2 x true hj w)
            have HW2 : Hid ((fun i => if i = k then 1 else (fun i => if i = k then (encI x).length else (fun i => if i < k then WS l (fun _ => 0) i else 0) i) i) = fun i => if i < k + 1 then WS l (fun _ => 0) i else 0) := Lib.hid (by
              funext i
              by_cases e : i = k
              · subst e; simp [WS, widN, HAT.out, hj]
              · by_cases h : i < k
                · simp [e, h, show i < k + 1 by omega]
                · simp [e, h, show ¬ i < k + 1 by omega])
            clear hj
            go_wp2_with fail
            go_region_held3 (fun w' => w'.cell? ⟨gs, 1, none⟩ = some (.slice (some ⟨gz, 0, none⟩) n n) ∧ w'.cell? ⟨wr.heap.size, 0, none⟩ = some (.int .i64 x.op) ∧ w'.cell? ⟨wr.heap.size, 1, none⟩ = some (.int .i64 x.arg)) (first | (refine ⟨?_, ?_, ?_⟩ <;> assumption) | (go_keep; done)) (first | ((go_at_call 21; refine (HE.out _).mono ?_; rintro e w2 ⟨va, vc, rfl, hO2, hB2⟩; have HL2 := Lib.hid (HL1.out.drew.below hB2); have HK2 := Lib.hid ((HK1.out.drewN 1).below hB2); have HBW2 := Lib.hid (bl_thenA HBW1.out.drew hB2); have hzz2 := HBW2.out.size; obtain ⟨i0, i1, i2, i3⟩ := HL2.out.cells; have i4 := HL2.out.sz.cell k; rw [rowF_at hlt] at i4; have i5 := HL2.out.sz.fr k; have j0 := HK2.out.cell 0; have j1 := HK2.out.cell 1; simp only [List.getElem?_cons_zero, List.getElem?_cons_succ] at j0 j1; have HL3 := Lib.hid (HL2.out.setZ k (encI x).length); have HK3 := Lib.hid (HK2.out.setO (b := gz) (by have := HLr.out.sz.lt; omega) k (.int .i64 ((encI x).length : Int))); have HB3 := Lib.hid ((HWr.out.trans (HBW2.out.mono (by omega))).setCell (by have := HLr.out.b2; show _ ≤ gz; omega) (.int .i64 ((encI x).length : Int)) (p := ⟨gz, k, none⟩)); obtain ⟨m0, m1, m2, m3⟩ := HL3.out.cells; have m4 := HL3.out.sz.cell k; rw [rowF_at hlt] at m4; have m5 := HL3.out.sz.fr k; have n0 := HK3.out.cell 0; have n1 := HK3.out.cell 1; simp only [List.getElem?_cons_zero, List.getElem?_cons_succ] at n0 n1; clear hO2 hB2)) | (fail))
            go_wp2_with (go_at_call 23; refine (HAj.out _).mono ?_; rintro e w3 ⟨rfl, hb3⟩; have HL4 := Lib.hid (HL3.out.below hb3); obtain ⟨q0, q1, q2, q3⟩ := HL4.out.cells; have q4 := HL4.out.sz.cell k; rw [rowF_at hlt] at q4; have q5 := HL4.out.sz.fr k; have HB4 := Lib.hid (HB3.out.trans (hb3.mono (by simp [World.setCell]; omega))); have hzz3 := hb3.size)
            have hzf : B ≤ (w3.setCell ⟨gz, k, none⟩ (.int .i64 1)).heap.size := by simp [World.setCell] at hzz3 ⊢; omega
            have HL5 := Lib.hid (HL4.out.setZ k 1)
            rw [HW2.out] at HL5
            have HB5 := Lib.hid (HB4.out.setCell (by have := HLr.out.b2; show _ ≤ gz; omega) (.int .i64 ((1 : Nat) : Int)) (p := ⟨gz, k, none⟩))
            go_roundw
            case rel => exact ⟨k + 1, by go_num, by omega, hzf, HL5, HB5, Lib.hid (HC.out.below HB5.out)⟩
            case measure => simp [intOf]; omega
        · have hkn : k = n := by omega
          subst hkn
          have HLe := Lib.hid (show LayIs wr B gs gz ga gm k c a (WS l (fun _ => 0)) (fun _ => 0) [] 0 from by
            have e : (fun i => if i < k then WS l (fun _ => 0) i else 0) = WS l (fun _ => 0) := by
              funext i
              by_cases h : i < k
              · rw [if_pos h]
              · rw [if_neg h]; unfold WS widN; rw [atI_out (by rw [HN.out]; omega)]; rfl
            rw [← e]; exact HLr.out)
          go_wp2_with fail
          go_step3
          go_step
          go_step
          refine HJ.out _ _ ?_
          exact ⟨gs, gz, ga, gm, B, fun _ => 0, _, _, _, ⟨rfl, rfl, rfl, rfl⟩, HLe, Lib.hid (way_zero l), Lib.hid (Nat.zero_le _), HWr, hBz, hzw, HAB⟩
  · rintro a' w' ⟨gs, gz, ga, gm, B, S, A, ps, nm, hfr, HL, HY, HNM, HB, hzB, hzw, HAB⟩
    have hz0 := zOf_is HL.out (fr_five hfr)
    have HT : Hid (Tight encN (atI l) (tgtN l) S) := Lib.hid HY.out.tight
    have hm := way_measure HY.out
    rw [HN.out] at hm
    have hnm : n * n * sumN S n ≤ 1000000 * 2000 := Nat.mul_le_mul (Nat.mul_le_mul hl hl) (by omega)
    have hnn : n * n ≤ 1000000 := Nat.mul_le_mul hl hl
    have hnm2 := HNM.out
    have hW2 : ∀ i, WS l S i ≤ 3 := WS_three (fun i => tight_two _ _ _ HT.out i)
    have HW3 := Lib.hid hW2
    have hzs := sum_three hW2 n
    have hnm3 : nm ≤ 2000000000 := by omega
    have HG := Lib.hid (growLC l w' B gs gz ga gm n c a S A ps nm HL.out (HC.out.below HB.out) HN.out hl HO.out HT.out (by omega) hzB HAB.out)
    rw [hz0]
    clear hW2 hnm hz0
    obtain ⟨q, rfl⟩ := fr_open hfr
    go_wp2_with fail
    refine HG.out.mono ?_
    rintro e w1 ⟨gb, A1, ps1, rfl, hgo, hl1, hb1⟩
    have HGO := Lib.hid hgo
    have HL1 := Lib.hid hl1
    have HB1 : Hid (Below w.heap.size w w1) := Lib.hid (HB.out.trans (hb1.mono hzw))
    have hzz1 : B ≤ w1.heap.size := Nat.le_trans hzB hb1.size
    clear hgo hl1 hb1
    cases gb with
    | true =>
      go_wp2
      go_step3
      have hne : swK l S l.length ≠ S := by rw [HN.out]; exact HGO.out.2 rfl
      have hlt := WS_lt HT.out hne
      have hlt2 : sumN S l.length < sumN (swK l S l.length) l.length := sweep_lt hne
      rw [HN.out] at hlt hlt2
      have hw3 : ∀ i, WS l (swK l S n) i ≤ 3 := WS_three (fun i => swK_two HT.out n i)
      have hz3 := sum_three hw3 n
      refine ⟨rfl, ⟨gs, gz, ga, gm, B, swK l S n, A1, ps1, nm + n * n, ⟨rfl, rfl, rfl, rfl⟩, HL1, Lib.hid (by have := way_sweep HY.out; unfold sweepL at this; rw [HN.out] at this; exact this), Lib.hid ?_, HB1, hzz1, hzw, HAB⟩, ?_⟩
      · have h1 : n * n * (sumN S n + 1) ≤ n * n * sumN (swK l S n) n := Nat.mul_le_mul (Nat.le_refl _) hlt2
        rw [Nat.mul_add, Nat.mul_one] at h1
        omega
      · show 3 * n - zOf n _ w1 < 3 * n - sumN (WS l S) n
        rw [zOf_is HL1.out rfl]; omega
    | false =>
      have hsw : swK l S n = S := HGO.out.1 rfl
      rw [hsw] at HL1
      have HSZ : Hid (AsmSz l S) := Lib.hid (way_end HY.out (by show swK l S l.length = S; rw [HN.out]; exact hsw))
      clear hsw
      have HC1 := Lib.hid (HC.out.below HB1.out)
      have HP := Lib.hid (placeC l w1 B gs gz ga gm n c a (WS l S) A1 ps1 (nm + n * n) HL1.out HC1.out HN.out (by omega) HW3.out (by omega) hzz1 HAB.out)
      go_wp2_with fail
      refine HP.out.mono ?_
      rintro e w2 ⟨rfl, hl2, hb2⟩
      have HL2 := Lib.hid hl2
      have HB2 : Hid (Below w.heap.size w w2) := Lib.hid (HB1.out.trans (hb2.mono hzw))
      have hzz2 : B ≤ w2.heap.size := Nat.le_trans hzz1 hb2.size
      have hpn := posN_three HW3.out n
      obtain ⟨d0, d1, d2, d3⟩ := hl2.cells
      have d4 := hl2.pl.cell n
      rw [rowF_at (by omega)] at d4
      have hn0 : (0 : Int) ≤ (n : Int) := by omega
      have hn1 : (n : Int) < (n : Int) + 1 := by omega
      obtain ⟨P, hP⟩ : ∃ P, posN (WS l S) n = P := ⟨_, rfl⟩
      rw [hP] at hpn d4
      have hpc : (P : Int) ≤ 65536 := by omega
      have hZ1 := hl2.st.lt
      have hZ2 := hl2.sz.lt
      have hZ3 := hl2.pl.lt
      have hZ4 := hl2.mp.lt
      obtain ⟨Z, hZ⟩ : ∃ Z, w2.heap.size = Z := ⟨_, rfl⟩
      have HZ := Lib.hid hZ
      rw [hZ] at hZ1 hZ2 hZ3 hZ4 hzz2
      obtain ⟨i0, hi, hy0, hy1, hy2⟩ := info_parts Tryd.infoByte
      obtain ⟨ps2, hps2⟩ : ∃ ps, ps1 ++ labK l (WS l S) n = ps := ⟨_, rfl⟩
      obtain ⟨nm2, hnm2'⟩ : ∃ m, nm + n * n + n = m := ⟨_, rfl⟩
      have HTG : Hid (∀ k, k < n → isJ (atI l k) = true → lastN ps2 (atI l k).arg 0 = (posN (WS l S) (tgtN l k) : Int)) := Lib.hid (fun k hk hj => by
        have := lab_target (W := WS l S) HO.out (by rw [HN.out]; exact hk) hj ps1
        rw [HN.out, hps2] at this; exact this)
      rw [hps2, hnm2'] at HL2
      have hF : codeGo (farL l S) S l 0 = codeGo (farL l S) S (l.drop 0) 0 := rfl
      clear hl2 hb2 hP hps2 hnm2' hZ
      go_wp2_with fail
      clear d0 d1 d2 d3 d4
      go_loopw [8, 69] (fun v i wr => ∃ (k : Nat) (L : List UInt8), i = .int .i64 k ∧ k ≤ n ∧ L.length ≤ 3 * k ∧ Z ≤ wr.heap.size ∧ Hid (OwB wr Z v L) ∧ Hid (LayIs wr B gs gz ga gm n c a (WS l S) (fun i => (posN (WS l S) i : Int)) ps2 nm2) ∧ Hid (Below w.heap.size w wr) ∧ Hid (L ++ codeGo (farL l S) S (l.drop k) k = codeGo (farL l S) S l 0)) (fun _ i _ => n - (intOf i).toNat)
      case atStart => exact ⟨0, [], rfl, Nat.zero_le _, by simp, by rw [HZ.out]; exact Nat.le_refl _, Lib.hid (OwB.nil _ _), HL2, HB2, Lib.hid rfl⟩
      case round =>
        obtain ⟨k, L, rfl, hk, hLk, hZr, HOw, HLr, HWr, HE⟩ := hrel
        by_cases hlt : k < n
        · have hkl : k < l.length := by rw [HN.out]; exact hlt
          have HCr := Lib.hid (HC.out.below HWr.out)
          obtain ⟨b, off, ha, hblt, hw, hx0, hx1⟩ := HCr.out k hkl
          have hat : atI l k = l[k] := atI_get hkl
          subst ha
          have hok := HOK.out l[k] (List.getElem_mem hkl)
          have hE := HE.out
          rw [List.drop_eq_getElem_cons hkl] at hE
          obtain ⟨x, hx⟩ : ∃ x, l[k] = x := ⟨_, rfl⟩
          rw [hx] at hw hx0 hx1 hat hok hE
          have HAT := Lib.hid hat
          have HEx := Lib.hid hE
          have HX := Lib.hid hok
          obtain ⟨p, hp⟩ : ∃ p, L.length = p := ⟨_, rfl⟩
          have HPL := Lib.hid hp
          obtain ⟨va, vc, hv⟩ := ow_shape HOw.out
          rw [hp] at hLk hv
          subst hv
          have HOr : Hid (wr.ownsRow Z 5 1 (.slice va p vc) p (L.map byteV)) := Lib.hid (by have := HOw.out; unfold OwB at this; rw [hp] at this; exact this)
          have hk0 : (0 : Int) ≤ (k : Int) := by omega
          have hk1 : (k : Int) < (n : Int) := by omega
          clear hat hx hE HE hok hp
          cases hj : isJ x with
          | false =>
            have HAj := Lib.hid (fun w => asksC2 x false hj w)
            cases hL : isL x with
            | true =>
              have HEL := Lib.hid (fun w => encC_L x hL w)
              have HE2 : Hid (L ++ codeGo (farL l S) S (l.drop (k + 1)) (k + 1) = codeGo (farL l S) S l 0) := Lib.hid (by
                have := HEx.out
                rw [codeGo, itemB, if_neg (by simp [hj]), encI_label hL] at this
                simpa using this)
              clear hj hL
              go_wp2_with (first | (go_at_call 23; refine (HAj.out _).mono ?_; rintro e w3 ⟨rfl, hb3⟩; have HB3 := Lib.hid (bl_thenA (bl_one wr (.cells #[.int .i64 x.op, .int .i64 x.arg] 37)) hb3); have HK3 := Lib.hid ((BK.new wr [.int .i64 x.op, .int .i64 x.arg] 37).below hb3); have z0 := HK3.out.cell 0; have z1 := HK3.out.cell 1; simp only [List.getElem?_cons_zero, List.getElem?_cons_succ] at z0 z1; clear hb3) | (go_at_call 21; refine (HEL.out _).mono ?_; rintro e w4 ⟨rfl, hb4⟩; have HB4 := Lib.hid (bl_thenA HB3.out hb4); have hO4 := Lib.hid (ow_below HOr.out HB4.out); clear hb4) | (at_builtin; refine wpList_append_own_none rfl _ _ _ rfl Z 5 i0 1 Tryd.underlying27 hi (.slice va p vc) p (L.map byteV) rfl hO4.out rfl ?_))
              go_roundw
              case rel => exact ⟨k + 1, L, by go_num, by omega, by rw [HPL.out]; omega, Nat.le_trans hZr HB4.out.size, Lib.hid (ow_below HOw.out HB4.out), Lib.hid (HLr.out.below HB4.out), Lib.hid (bl_thenA HWr.out HB4.out), HE2⟩
              case measure => simp [intOf]; omega
            | false =>
              have hop : opOk x.op := by
                rcases HX.out with h | h | h
                · rw [hL] at h; cases h
                · rw [hj] at h; cases h
                · exact h.1
              have hel : (encI x).length ≤ 3 := by have := HW3.out k; unfold WS widN at this; rw [HAT.out, hj] at this; simpa [encN] using this
              have HE2 : Hid ((L ++ encI x) ++ codeGo (farL l S) S (l.drop (k + 1)) (k + 1) = codeGo (farL l S) S l 0) := Lib.hid (by
                have := HEx.out
                rw [codeGo, itemB, if_neg (by simp [hj])] at this
                rw [List.append_assoc]; exact this)
              obtain ⟨E, hEe⟩ : ∃ E, encI x = E := ⟨_, rfl⟩
              obtain ⟨m, hm0⟩ : ∃ m, E.length = m := ⟨_, rfl⟩
              have HES := Lib.hid (fun w => encC_E x E m hop hEe hm0 w)
              rw [hEe] at HE2 hel
              have HM := Lib.hid hm0
              rw [hm0] at hel
              clear hj hL hEe hm0
              go_wp2_with (first | (go_at_call 23; refine (HAj.out _).mono ?_; rintro e w3 ⟨rfl, hb3⟩; have HB3 := Lib.hid (bl_thenA (bl_one wr (.cells #[.int .i64 x.op, .int .i64 x.arg] 37)) hb3); have HK3 := Lib.hid ((BK.new wr [.int .i64 x.op, .int .i64 x.arg] 37).below hb3); have z0 := HK3.out.cell 0; have z1 := HK3.out.cell 1; simp only [List.getElem?_cons_zero, List.getElem?_cons_succ] at z0 z1; clear hb3) | (go_at_call 21; refine (HES.out _).mono ?_; rintro e w4 ⟨g4, c4, rfl, hc4, hb4⟩; have HB4 := Lib.hid (bl_thenA HB3.out hb4); have hO4 := Lib.hid (ow_below HOr.out HB4.out); have HC4 := Lib.hid hc4; have hzz4 := HB4.out.size; clear hb4 hc4) | (at_builtin; refine wpList_append_own _ rfl _ _ 27 rfl Z 5 i0 (.int .u8 0) 1 1 Tryd.underlying27 hi hy0 hy1 hy2 rfl (by decide) (.slice va p vc) p (L.map byteV) rfl hO4.out ⟨g4, 0, none⟩ m c4 (E.map byteV) rfl (by rw [List.length_map, HM.out, Nat.mul_one]) (byte_news HC4.out) (byte_one _) (by unfold maxLen; omega) (by omega) (by omega) ?_; intro v5 w5 hown5 hgrow5 _; have HO5 := Lib.hid (OwB.app (L := L) (X := E) (by rw [HPL.out, HM.out]; exact hown5)); have HL5 := Lib.hid ((HLr.out.below HB4.out).grown hgrow5 (fun j hj => by have := ow_lo hO4.out j hj; omega)); have HB5 := Lib.hid ((bl_thenA HWr.out HB4.out).grown hgrow5 (bl_thenA HWr.out HB4.out).size (fun j hj => by have := ow_lo hO4.out j hj; have := HL2.out.b1; omega)); have hzz5 := hgrow5.size; clear hown5 hgrow5))
              go_roundw
              case rel => exact ⟨k + 1, L ++ E, by go_num, by omega, by simp [HPL.out, HM.out]; omega, by omega, HO5, HL5, HB5, HE2⟩
              case measure => simp [intOf]; omega
          | true =>
            have HAj := Lib.hid (fun w => asksC2 x true hj w)
            have hf2 := far_bd (fun i => tight_two _ _ _ HSZ.out.tight i) (by rw [HN.out]; omega) k hkl
            have hs2 : S k ≤ 2 := tight_two _ _ _ HSZ.out.tight k
            have hop2 : x.op = 24 ∨ x.op = 25 := by unfold isJ at hj; simp only [Bool.or_eq_true, beq_iff_eq] at hj; exact hj
            have hV2 := posN_three HW3.out (tgtN l k)
            have hZ2 := posN_three HW3.out (k + 1)
            have htl : tgtN l k ≤ l.length := by
              have := stnd_le (atI l k).arg l 0
              unfold tgtN
              omega
            have hfe : (posN (WS l S) (tgtN l k) : Int) - (posN (WS l S) (k + 1) : Int) = farL l S k := rfl
            have HTGk : lastN ps2 (atI l k).arg 0 = (posN (WS l S) (tgtN l k) : Int) := HTG.out k hlt (by rw [HAT.out]; exact hj)
            obtain ⟨f, hf⟩ : ∃ f, farL l S k = f := ⟨_, rfl⟩
            obtain ⟨s, hs⟩ : ∃ s, S k = s := ⟨_, rfl⟩
            rw [hf] at hf2 hfe
            rw [hs] at hs2
            have HFar := Lib.hid (fun w h1 h2 => farC l k w B gs gz ga gm n c (some ⟨b, off, none⟩) (WS l S) (fun i => (posN (WS l S) i : Int)) ps2 nm2 _ _ h1 h2 HN.out (by omega) hlt HTGk (by omega) rfl (by omega))
            rw [hfe] at HFar
            have HE2 : Hid ((L ++ encS x.op f s) ++ codeGo (farL l S) S (l.drop (k + 1)) (k + 1) = codeGo (farL l S) S l 0) := Lib.hid (by
              have := HEx.out
              rw [codeGo, itemB, if_pos hj, hf, hs] at this
              rw [List.append_assoc]; exact this)
            have hIs := Lib.hid (fun w => isC2 f true (by simp; omega) w)
            have hWk : WS l S k = 1 + s := by unfold WS widN; rw [HAT.out, if_pos hj, hs]
            clear hj hf hs hfe HTGk htl
            go_wp2_with (first | (go_at_call 23; refine (HAj.out _).mono ?_; rintro e w3 ⟨rfl, hb3⟩; have HB3 := Lib.hid (bl_thenA (bl_one wr (.cells #[.int .i64 x.op, .int .i64 x.arg] 37)) hb3); have HK3 := Lib.hid ((BK.new wr [.int .i64 x.op, .int .i64 x.arg] 37).below hb3); have HL3 := Lib.hid (HLr.out.below HB3.out); have HC3 := Lib.hid (HCr.out.below HB3.out); clear hb3) | (go_at_call 31; refine (HFar.out _ HL3.out HC3.out).mono ?_; rintro e w4 ⟨rfl, q4, rfl⟩) | (go_at_call 32; refine (hIs.out _).mono ?_; rintro e w5 ⟨rfl, rfl⟩))
            obtain ⟨W, hW⟩ : ∃ W, (w3.drewN q4).alloc (.cells #[.int .u8 (f / 256 % 256), .int .u8 (f % 256)] 5) = W := ⟨_, rfl⟩
            have HLW : Hid (LayIs W B gs gz ga gm n c (some ⟨b, off, none⟩) (WS l S) (fun i => (posN (WS l S) i : Int)) ps2 nm2) := Lib.hid (by rw [← hW]; exact (HL3.out.drewN q4).below (bl_one _ _))
            have HKW : Hid (BK W wr.heap.size [.int .i64 x.op, .int .i64 x.arg] 37) := Lib.hid (by rw [← hW]; exact (HK3.out.drewN q4).alloc _)
            have HBW : Hid (BK W w3.heap.size [.int .u8 (f / 256 % 256), .int .u8 (f % 256)] 5) := Lib.hid (by rw [← hW]; exact BK.new (w3.drewN q4) _ _)
            have HWW : Hid (Below wr.heap.size wr W) := Lib.hid (by rw [← hW]; exact bl_a (bl_drewN HB3.out q4) _)
            have hzW : w3.heap.size < W.heap.size := HBW.out.lt
            have hz3 : wr.heap.size < w3.heap.size := HK3.out.lt
            have hz31 : ¬ w3.heap.size = wr.heap.size := by omega
            rw [hW]
            clear hW HL3 HK3 HB3 HC3
            have HOW : Hid (W.ownsRow Z 5 1 (.slice va p vc) p (L.map byteV)) := Lib.hid (ow_below HOr.out HWW.out)
            have hol := Lib.hid (fun j hj => ow_hi HOr.out j hj)
            have hoz := Lib.hid (fun j hj => ow_lo HOr.out j hj)
            have d1 := HLW.out.cells.2.1
            have d4 : W.cell? ⟨gz, k, none⟩ = some (.int .i64 ((1 + s : Nat) : Int)) := by have := HLW.out.sz.cell k; rw [rowF_at hlt] at this; simp only [hWk] at this; exact this
            have z0 := HKW.out.cell 0
            simp only [List.getElem?_cons_zero] at z0
            have HWK := Lib.hid hWk
            obtain ⟨o, ho⟩ : ∃ o, x.op = o := ⟨_, rfl⟩
            rw [ho] at z0 hop2 HE2 HKW
            have hop3 : 24 ≤ o ∧ o ≤ 25 := by omega
            clear hWk ho hop2
            rcases (show s = 0 ∨ s = 1 ∨ s = 2 by omega) with rfl | rfl | rfl
            · have d4' : W.cell? ⟨gz, k, none⟩ = some (.int .i64 1) := d4
              obtain ⟨cc, hcc⟩ : ∃ cc, (4 * o + 0) % 256 = cc := ⟨_, rfl⟩
              have HCC := Lib.hid hcc
              have hw1 : IntKind.i64.wrap (4 * o) = 4 * o := IntWalk.i64_in _ (by omega)
              have hw2 : IntKind.i64.wrap (4 * o + 1) = 4 * o + 1 := IntWalk.i64_in _ (by omega)
              have hw3 : IntKind.i64.wrap (4 * o + 1 - 1) = 4 * o + 1 - 1 := IntWalk.i64_in _ (by omega)
              have hw4 : IntKind.u8.wrap (4 * o + 1 - 1) = cc := by rw [← hcc]; show (4 * o + 1 - 1) % 256 = _; omega
              have hw7 : IntKind.u8.wrap (4 * o) = cc := by rw [← hcc]; show (4 * o) % 256 = _; omega
              have hw8 : IntKind.i64.wrap (4 * o) = 4 * o := IntWalk.i64_in _ (by omega)
              have hw5 : IntKind.i64.wrap (3 - 1) = 2 := by decide
              have hw6 : IntKind.i64.wrap 2 = 2 := by decide
              clear d4 hcc
              go_region_held3 (fun w' => w'.cell? ⟨gs, 1, none⟩ = some (.slice (some ⟨gz, 0, none⟩) n n) ∧ w'.cell? ⟨gz, k, none⟩ = some (.int .i64 1) ∧ w'.cell? ⟨wr.heap.size, 0, none⟩ = some (.int .i64 o))
                (first | (go_keep; done) | (exact HS5.out) | (exact HS6.out))
                (first
                  | (have _t := HO5.out; clear _t; (refine step_append_lies0 (by rfl) _ _ _ (by rfl) Z 5 i0 (.int .u8 0) 1 1 Tryd.underlying27 hi hy0 hy1 hy2 rfl (by decide) (.slice (some ⟨g5, 0, none⟩) (p + 1) cap5) (p + 1) (L.map byteV ++ [.int .u8 cc]) (by rfl) HO5.out ⟨w3.heap.size, 0, none⟩ 0 0 ((argB f 0).map byteV) (by rfl) (by simp [argB]) (arg_news (by omega) (by omega) HBK5.out) (byte_one _) (by omega) (by unfold maxLen; omega) (by omega) (by omega) ?_; intro g6 cap6 w6 hown6 hgrow6; have HO6 := Lib.hid hown6; have HL6 := Lib.hid (HL5.out.grown hgrow6 (fun j hj => by have := ow_lo HO5.out j hj; omega)); have HK6 := Lib.hid (HK5.out.kept hgrow6 (fun j hj => by have e : g5 = j := (by simpa [Value.ownBlock] using hj); omega)); have HB6 := Lib.hid (HB5.out.grown hgrow6 HB5.out.size (fun j hj => by have := ow_lo HO5.out j hj; omega)); have z6 := HK6.out.cell 0; simp only [List.getElem?_cons_zero] at z6; have d6 := HL6.out.sz.cell k; rw [rowF_at hlt] at d6; simp only [HWK.out] at d6; have HS6 := Lib.hid (And.intro HL6.out.cells.2.1 (And.intro (show w6.cell? ⟨gz, k, none⟩ = some (.int .i64 1) from d6) z6)); have hzz6 : w5.heap.size ≤ w6.heap.size := hgrow6.size; clear hown6 hgrow6 z6 d6))
                  | (refine step_append_lies _ (by rfl) _ _ _ (by rfl) Z 5 i0 (.int .u8 0) 1 1 Tryd.underlying27 hi hy0 hy1 hy2 rfl (by decide) (.slice va p vc) p (L.map byteV) (by rfl) ((HOW.out.alloc _).drew) ⟨W.heap.size, 0, none⟩ 1 1 [.int .u8 cc] (by rfl) rfl (news_lit W [.int .u8 cc] _) (ow_one rfl) (by omega) (by unfold maxLen; omega) (by omega) (by simp; omega) (W.heap.size + 1) (by simp) ?_; intro g5 cap5 w5 hown5 hgrow5 hat5 hlt5; have hg5 : g5 < wr.heap.size ∨ g5 = W.heap.size + 1 := (by rcases hat5 with h | h; exact .inl (hol.out g5 h); exact .inr h); clear hat5; have HO5 := Lib.hid hown5; have HL5 := Lib.hid ((HLW.out.below (bl_one W (.cells #[.int .u8 cc] 5))).drew.grown hgrow5 (fun j hj => by have := hoz.out j hj; omega)); have HBK5 := Lib.hid (((HBW.out.alloc (.cells #[.int .u8 cc] 5)).drewN 1).kept (w' := w5) hgrow5 (fun j hj => by have := hol.out j hj; omega)); have HK5 := Lib.hid (((HKW.out.alloc (.cells #[.int .u8 cc] 5)).drewN 1).kept (w' := w5) hgrow5 (fun j hj => by have := hol.out j hj; omega)); have HB5 := Lib.hid ((bl_a (bl_thenA HWr.out HWW.out) (.cells #[.int .u8 cc] 5)).drew.grown hgrow5 (bl_a (bl_thenA HWr.out HWW.out) (.cells #[.int .u8 cc] 5)).drew.size (fun j hj => by have := hoz.out j hj; omega)); have hzz5 : W.heap.size + 1 ≤ w5.heap.size := (by have := hgrow5.size; simpa using this); have z5 := HK5.out.cell 0; simp only [List.getElem?_cons_zero] at z5; have d5 := HL5.out.sz.cell k; rw [rowF_at hlt] at d5; simp only [HWK.out] at d5; have HS5 := Lib.hid (And.intro HL5.out.cells.2.1 (And.intro (show w5.cell? ⟨gz, k, none⟩ = some (.int .i64 1) from d5) z5)); clear hown5 hgrow5 z5 d5)
                  | (fail))
              go_wp2_with fail
              go_roundw
              case rel => exact ⟨k + 1, L ++ encS o f 0, by go_num, by omega, by rw [List.length_append, encS_len _ _ _ (by omega), HPL.out]; omega, by omega, Lib.hid (enc_own HPL.out (by omega) HCC.out.symm HO6.out), HL6, HB6, HE2⟩
              case measure => simp [intOf]; omega
            · have d4' : W.cell? ⟨gz, k, none⟩ = some (.int .i64 2) := d4
              obtain ⟨cc, hcc⟩ : ∃ cc, (4 * o + 1) % 256 = cc := ⟨_, rfl⟩
              have HCC := Lib.hid hcc
              have hw1 : IntKind.i64.wrap (4 * o) = 4 * o := IntWalk.i64_in _ (by omega)
              have hw2 : IntKind.i64.wrap (4 * o + 2) = 4 * o + 2 := IntWalk.i64_in _ (by omega)
              have hw3 : IntKind.i64.wrap (4 * o + 2 - 1) = 4 * o + 2 - 1 := IntWalk.i64_in _ (by omega)
              have hw4 : IntKind.u8.wrap (4 * o + 2 - 1) = cc := by rw [← hcc]; show (4 * o + 2 - 1) % 256 = _; omega
              have hw7 : IntKind.u8.wrap (4 * o + 1) = cc := by rw [← hcc]; show (4 * o + 1) % 256 = _; omega
              have hw8 : IntKind.i64.wrap (4 * o + 1) = 4 * o + 1 := IntWalk.i64_in _ (by omega)
              have hw5 : IntKind.i64.wrap (3 - 2) = 1 := by decide
              have hw6 : IntKind.i64.wrap 1 = 1 := by decide
              clear d4 hcc
              go_region_held3 (fun w' => w'.cell? ⟨gs, 1, none⟩ = some (.slice (some ⟨gz, 0, none⟩) n n) ∧ w'.cell? ⟨gz, k, none⟩ = some (.int .i64 2) ∧ w'.cell? ⟨wr.heap.size, 0, none⟩ = some (.int .i64 o))
                (first | (go_keep; done) | (exact HS5.out) | (exact HS6.out))
                (first
                  | (have _t := HO5.out; clear _t; (refine step_append_lies0 (by rfl) _ _ _ (by rfl) Z 5 i0 (.int .u8 0) 1 1 Tryd.underlying27 hi hy0 hy1 hy2 rfl (by decide) (.slice (some ⟨g5, 0, none⟩) (p + 1) cap5) (p + 1) (L.map byteV ++ [.int .u8 cc]) (by rfl) HO5.out ⟨w3.heap.size, 1, none⟩ 1 1 ((argB f 1).map byteV) (by rfl) (by simp [argB]) (arg_news (by omega) (by omega) HBK5.out) (byte_one _) (by omega) (by unfold maxLen; omega) (by omega) (by omega) ?_; intro g6 cap6 w6 hown6 hgrow6; have HO6 := Lib.hid hown6; have HL6 := Lib.hid (HL5.out.grown hgrow6 (fun j hj => by have := ow_lo HO5.out j hj; omega)); have HK6 := Lib.hid (HK5.out.kept hgrow6 (fun j hj => by have e : g5 = j := (by simpa [Value.ownBlock] using hj); omega)); have HB6 := Lib.hid (HB5.out.grown hgrow6 HB5.out.size (fun j hj => by have := ow_lo HO5.out j hj; omega)); have z6 := HK6.out.cell 0; simp only [List.getElem?_cons_zero] at z6; have d6 := HL6.out.sz.cell k; rw [rowF_at hlt] at d6; simp only [HWK.out] at d6; have HS6 := Lib.hid (And.intro HL6.out.cells.2.1 (And.intro (show w6.cell? ⟨gz, k, none⟩ = some (.int .i64 2) from d6) z6)); have hzz6 : w5.heap.size ≤ w6.heap.size := hgrow6.size; clear hown6 hgrow6 z6 d6))
                  | (refine step_append_lies _ (by rfl) _ _ _ (by rfl) Z 5 i0 (.int .u8 0) 1 1 Tryd.underlying27 hi hy0 hy1 hy2 rfl (by decide) (.slice va p vc) p (L.map byteV) (by rfl) ((HOW.out.alloc _).drew) ⟨W.heap.size, 0, none⟩ 1 1 [.int .u8 cc] (by rfl) rfl (news_lit W [.int .u8 cc] _) (ow_one rfl) (by omega) (by unfold maxLen; omega) (by omega) (by simp; omega) (W.heap.size + 1) (by simp) ?_; intro g5 cap5 w5 hown5 hgrow5 hat5 hlt5; have hg5 : g5 < wr.heap.size ∨ g5 = W.heap.size + 1 := (by rcases hat5 with h | h; exact .inl (hol.out g5 h); exact .inr h); clear hat5; have HO5 := Lib.hid hown5; have HL5 := Lib.hid ((HLW.out.below (bl_one W (.cells #[.int .u8 cc] 5))).drew.grown hgrow5 (fun j hj => by have := hoz.out j hj; omega)); have HBK5 := Lib.hid (((HBW.out.alloc (.cells #[.int .u8 cc] 5)).drewN 1).kept (w' := w5) hgrow5 (fun j hj => by have := hol.out j hj; omega)); have HK5 := Lib.hid (((HKW.out.alloc (.cells #[.int .u8 cc] 5)).drewN 1).kept (w' := w5) hgrow5 (fun j hj => by have := hol.out j hj; omega)); have HB5 := Lib.hid ((bl_a (bl_thenA HWr.out HWW.out) (.cells #[.int .u8 cc] 5)).drew.grown hgrow5 (bl_a (bl_thenA HWr.out HWW.out) (.cells #[.int .u8 cc] 5)).drew.size (fun j hj => by have := hoz.out j hj; omega)); have hzz5 : W.heap.size + 1 ≤ w5.heap.size := (by have := hgrow5.size; simpa using this); have z5 := HK5.out.cell 0; simp only [List.getElem?_cons_zero] at z5; have d5 := HL5.out.sz.cell k; rw [rowF_at hlt] at d5; simp only [HWK.out] at d5; have HS5 := Lib.hid (And.intro HL5.out.cells.2.1 (And.intro (show w5.cell? ⟨gz, k, none⟩ = some (.int .i64 2) from d5) z5)); clear hown5 hgrow5 z5 d5)
                  | (fail))
              go_wp2_with fail
              go_roundw
              case rel => exact ⟨k + 1, L ++ encS o f 1, by go_num, by omega, by rw [List.length_append, encS_len _ _ _ (by omega), HPL.out]; omega, by omega, Lib.hid (enc_own HPL.out (by omega) HCC.out.symm HO6.out), HL6, HB6, HE2⟩
              case measure => simp [intOf]; omega
            · have d4' : W.cell? ⟨gz, k, none⟩ = some (.int .i64 3) := d4
              obtain ⟨cc, hcc⟩ : ∃ cc, (4 * o + 2) % 256 = cc := ⟨_, rfl⟩
              have HCC := Lib.hid hcc
              have hw1 : IntKind.i64.wrap (4 * o) = 4 * o := IntWalk.i64_in _ (by omega)
              have hw2 : IntKind.i64.wrap (4 * o + 3) = 4 * o + 3 := IntWalk.i64_in _ (by omega)
              have hw3 : IntKind.i64.wrap (4 * o + 3 - 1) = 4 * o + 3 - 1 := IntWalk.i64_in _ (by omega)
              have hw4 : IntKind.u8.wrap (4 * o + 3 - 1) = cc := by rw [← hcc]; show (4 * o + 3 - 1) % 256 = _; omega
              have hw7 : IntKind.u8.wrap (4 * o + 2) = cc := by rw [← hcc]; show (4 * o + 2) % 256 = _; omega
              have hw8 : IntKind.i64.wrap (4 * o + 2) = 4 * o + 2 := IntWalk.i64_in _ (by omega)
              have hw5 : IntKind.i64.wrap (3 - 3) = 0 := by decide
              have hw6 : IntKind.i64.wrap 0 = 0 := by decide
              clear d4 hcc
              go_region_held3 (fun w' => w'.cell? ⟨gs, 1, none⟩ = some (.slice (some ⟨gz, 0, none⟩) n n) ∧ w'.cell? ⟨gz, k, none⟩ = some (.int .i64 3) ∧ w'.cell? ⟨wr.heap.size, 0, none⟩ = some (.int .i64 o))
                (first | (go_keep; done) | (exact HS5.out) | (exact HS6.out))
                (first
                  | (have _t := HO5.out; clear _t; (refine step_append_lies0 (by rfl) _ _ _ (by rfl) Z 5 i0 (.int .u8 0) 1 1 Tryd.underlying27 hi hy0 hy1 hy2 rfl (by decide) (.slice (some ⟨g5, 0, none⟩) (p + 1) cap5) (p + 1) (L.map byteV ++ [.int .u8 cc]) (by rfl) HO5.out ⟨w3.heap.size, 0, none⟩ 2 2 ((argB f 2).map byteV) (by rfl) (by simp [argB]) (arg_news (by omega) (by omega) HBK5.out) (byte_one _) (by omega) (by unfold maxLen; omega) (by omega) (by omega) ?_; intro g6 cap6 w6 hown6 hgrow6; have HO6 := Lib.hid hown6; have HL6 := Lib.hid (HL5.out.grown hgrow6 (fun j hj => by have := ow_lo HO5.out j hj; omega)); have HK6 := Lib.hid (HK5.out.kept hgrow6 (fun j hj => by have e : g5 = j := (by simpa [Value.ownBlock] using hj); omega)); have HB6 := Lib.hid (HB5.out.grown hgrow6 HB5.out.size (fun j hj => by have := ow_lo HO5.out j hj; omega)); have z6 := HK6.out.cell 0; simp only [List.getElem?_cons_zero] at z6; have d6 := HL6.out.sz.cell k; rw [rowF_at hlt] at d6; simp only [HWK.out] at d6; have HS6 := Lib.hid (And.intro HL6.out.cells.2.1 (And.intro (show w6.cell? ⟨gz, k, none⟩ = some (.int .i64 3) from d6) z6)); have hzz6 : w5.heap.size ≤ w6.heap.size := hgrow6.size; clear hown6 hgrow6 z6 d6))
                  | (refine step_append_lies _ (by rfl) _ _ _ (by rfl) Z 5 i0 (.int .u8 0) 1 1 Tryd.underlying27 hi hy0 hy1 hy2 rfl (by decide) (.slice va p vc) p (L.map byteV) (by rfl) ((HOW.out.alloc _).drew) ⟨W.heap.size, 0, none⟩ 1 1 [.int .u8 cc] (by rfl) rfl (news_lit W [.int .u8 cc] _) (ow_one rfl) (by omega) (by unfold maxLen; omega) (by omega) (by simp; omega) (W.heap.size + 1) (by simp) ?_; intro g5 cap5 w5 hown5 hgrow5 hat5 hlt5; have hg5 : g5 < wr.heap.size ∨ g5 = W.heap.size + 1 := (by rcases hat5 with h | h; exact .inl (hol.out g5 h); exact .inr h); clear hat5; have HO5 := Lib.hid hown5; have HL5 := Lib.hid ((HLW.out.below (bl_one W (.cells #[.int .u8 cc] 5))).drew.grown hgrow5 (fun j hj => by have := hoz.out j hj; omega)); have HBK5 := Lib.hid (((HBW.out.alloc (.cells #[.int .u8 cc] 5)).drewN 1).kept (w' := w5) hgrow5 (fun j hj => by have := hol.out j hj; omega)); have HK5 := Lib.hid (((HKW.out.alloc (.cells #[.int .u8 cc] 5)).drewN 1).kept (w' := w5) hgrow5 (fun j hj => by have := hol.out j hj; omega)); have HB5 := Lib.hid ((bl_a (bl_thenA HWr.out HWW.out) (.cells #[.int .u8 cc] 5)).drew.grown hgrow5 (bl_a (bl_thenA HWr.out HWW.out) (.cells #[.int .u8 cc] 5)).drew.size (fun j hj => by have := hoz.out j hj; omega)); have hzz5 : W.heap.size + 1 ≤ w5.heap.size := (by have := hgrow5.size; simpa using this); have z5 := HK5.out.cell 0; simp only [List.getElem?_cons_zero] at z5; have d5 := HL5.out.sz.cell k; rw [rowF_at hlt] at d5; simp only [HWK.out] at d5; have HS5 := Lib.hid (And.intro HL5.out.cells.2.1 (And.intro (show w5.cell? ⟨gz, k, none⟩ = some (.int .i64 3) from d5) z5)); clear hown5 hgrow5 z5 d5)
                  | (fail))
              go_wp2_with fail
              go_roundw
              case rel => exact ⟨k + 1, L ++ encS o f 2, by go_num, by omega, by rw [List.length_append, encS_len _ _ _ (by omega), HPL.out]; omega, by omega, Lib.hid (enc_own HPL.out (by omega) HCC.out.symm HO6.out), HL6, HB6, HE2⟩
              case measure => simp [intOf]; omega
        · have hkn : k = n := by omega
          subst hkn
          have hL : codeGo (farL l S) S l 0 = L := by
            have := HE.out
            rw [List.drop_of_length_le (by rw [HN.out]; exact Nat.le_refl _)] at this
            simpa [codeGo] using this.symm
          have HF : Hid (asmP l = .inr L) := Lib.hid (by rw [HAP.out S HSZ.out, hL])
          clear hL
          go_wp2
          dsimp only [Exit.jump]
          go_ret2
          exact ⟨L, _, HF.out, rfl, OwB.lower HOw.out (by omega), HWr.out⟩
end Go.Proofs.YtbcpopakdlplgaaDoor
namespace Go.Proofs.YtbcpopakdlplgaaDoor
open Go.RowKit Go.PlainAid Go.Maps
set_option linter.unusedVariables false
set_option linter.unusedSimpArgs false

set_option maxHeartbeats 4000000 in
theorem asmBad (v : Value) (l : List IN) (w : World) (hr : Reads Cd.ins.seq w v l) (hl : l.length ≤ 1000) (x : Int) (hw0 : wrongP l = x) (hx : x ≠ 0) :
    Calls Tryd.prog 14 #[v] w fun e w' => e = .returned (.tuple #[.slice none 0 0, .int .i64 x]) ∧ Below w.heap.size w w' := by
  obtain ⟨a, c, hv, hcap, _⟩ := hr.len
  subst hv
  have HR := Lib.hid hr
  have HWR := Lib.hid (fun w h => wrongC (.slice a l.length c) l w h (by omega))
  rw [hw0] at HWR
  have hne : (x != 0) = true := by simpa using hx
  have hne2 : ¬ x = 0 := hx
  clear hr hw0 hx
  go_enter Tryd.func14, Tryd.ntmps14
  go_wp2_with fail
  refine wp_scope_label 0 (fun _ _ => False) (fun _ _ => 0) rfl (fun a w h => h.elim) (fun HJ0 => ?_)
  clear HJ0
  go_wp2_with (go_at_call 28; refine (HWR.out _ HR.out).mono ?_; rintro e w1 ⟨rfl, hb1⟩)
  dsimp only [Exit.jump]
  go_ret2
  exact ⟨rfl, hb1⟩
end Go.Proofs.YtbcpopakdlplgaaDoor
