/- clewref30.Disassemble: the states of its loops. -/
import Derived.Test.YtbcpopakdlplgaaDoorAsmX
import Derived.Test.YtbcpopakdlplgaaDoorAsmT
import Derived.Test.YtbcpopakdlplgaaDoorAsmD3
import Derived.Test.YtbcpopakdlplgaaDoorAsmN2
import Derived.Test.YtbcpopakdlplgaaDoorAsmY
namespace Go.Proofs.YtbcpopakdlplgaaDoor
open Go.RowKit Go.PlainAid Go.Maps
set_option linter.unusedVariables false
set_option linter.unusedSimpArgs false

/-- The state of the first loop: what has been read. -/
structure RrSt (w wr : World) (b : List UInt8) (n : Nat) (ps : List (IN × Nat)) (at_ f : Nat) (v4 v5 : Value) : Prop where
  eq : preA ps (decAll f (b.drop at_)) = decAll n b
  pos : bpos ps ps.length = at_
  fuel : n ≤ f + at_
  cnt : ps.length ≤ at_
  one : ∀ p ∈ ps, 1 ≤ p.2 ∧ InW p.1 ∧ -32768 ≤ p.1.arg ∧ p.1.arg ≤ 32767
  o4 : OwI wr w.heap.size v4 (ps.map (·.1))
  o5 : OwN wr w.heap.size v5 (begsGo ps 0)
  ap : ApartV v4 v5
  bl : Below w.heap.size w wr
theorem rr_step {w wr w2 w6 w8 : World} {b : List UInt8} {n k f m z p g6 c6 g8 c8 : Nat} {ps : List (IN × Nat)} {x : IN} {v4 v5 : Value} {o2 o4 o6 : Obj} (HS : RrSt w wr b n ps k f v4 v5)
    (hb2 : Below wr.heap.size wr w2)
    (ho6 : OwI w6 w.heap.size (.slice (some ⟨g6, 0, none⟩) (p + 1) c6) (ps.map (·.1) ++ [x])) (hg6 : ((w2.alloc o2).alloc o4).grownBy w6 v4.ownBlock) (hat6 : v4.ownBlock = some g6 ∨ g6 = ((w2.alloc o2).alloc o4).heap.size) (hlt6 : g6 < w6.heap.size)
    (hp : ps.length = p) (ho8 : w8.ownsRow w.heap.size 3 1 (.slice (some ⟨g8, 0, none⟩) (p + 1) c8) (p + 1) ((begsGo ps 0).map (Value.int .i64) ++ [.int .i64 (k : Int)])) (hg8 : (w6.alloc o6).grownBy w8 v5.ownBlock)
    (hat8 : v5.ownBlock = some g8 ∨ g8 = (w6.alloc o6).heap.size) (he : preA (ps ++ [(x, m)]) (decAll (f - 1) (b.drop z)) = decAll n b ∧ n ≤ (f - 1) + z) (hz : k + m = z) (hm1 : 1 ≤ m) (hwx : InW x) (har : -32768 ≤ x.arg ∧ x.arg ≤ 32767) :
    RrSt w w8 b n (ps ++ [(x, m)]) z (f - 1) (.slice (some ⟨g6, 0, none⟩) (p + 1) c6) (.slice (some ⟨g8, 0, none⟩) (p + 1) c8) := by
  have hsz := HS.bl.size
  have s2 := hb2.size
  have s6 := hg6.size
  have s8 := hg8.size
  rw [World.size_alloc] at s6 s8
  rw [World.size_alloc] at s6
  have hp5 : ∀ j, v5.ownBlock = some j → w.heap.size ≤ j := fun j hj => ow_lo HS.o5 j hj
  have hp4 : ∀ j, v4.ownBlock = some j → w.heap.size ≤ j := fun j hj => ow_lo HS.o4 j hj
  have hh5 : ∀ j, v5.ownBlock = some j → j < wr.heap.size := fun j hj => (World.ownsRow.lt HS.o5 j hj).2
  have hpos := HS.pos
  have b1 : Below w.heap.size w ((w2.alloc o2).alloc o4) := bl_a (bl_a (bl_thenA HS.bl hb2) o2) o4
  have b2 : Below w.heap.size w w6 := b1.grown hg6 b1.size (fun j hj => hp4 j hj)
  have b3 : Below w.heap.size w w8 := (bl_a b2 o6).grown hg8 (bl_a b2 o6).size (fun j hj => hp5 j hj)
  refine { eq := he.1, pos := by rw [bpos_snoc, hpos]; exact hz, fuel := he.2, cnt := ?_, one := ?_, o4 := ?_, o5 := ?_, ap := ?_, bl := b3 }
  · have := HS.cnt; simp; omega
  · intro q hq
    rcases List.mem_append.1 hq with h | h
    · exact HS.one q h
    · simp at h; subst h; exact ⟨hm1, hwx, har⟩
  · rw [List.map_append]
    refine ow_apart (ow_below ho6 (bl_one w6 o6)) hg8 (fun j hj e => ?_)
    have e' : g6 = j := by simpa [Value.ownBlock] using e
    subst e'
    rcases hat6 with h | h
    · exact HS.ap _ h hj
    · rw [World.size_alloc, World.size_alloc] at h
      have := hh5 _ hj; omega
  · rw [begs_snoc, Nat.zero_add, hpos]
    exact OwN.snoc (by rw [begs_len, hp]; exact ho8)
  · intro j hj e
    have e1 : g6 = j := by simpa [Value.ownBlock] using hj
    have e2 : g8 = j := by simpa [Value.ownBlock] using e
    subst e1
    rcases hat8 with h | h
    · rw [e2] at h
      rcases hat6 with h' | h'
      · exact HS.ap _ h' h
      · rw [World.size_alloc, World.size_alloc] at h'
        have := hh5 _ h; omega
    · rw [World.size_alloc] at h; omega
/-- The state of the second loop. -/
structure CtSt (w wz : World) (n C : Nat) (ps : List (IN × Nat)) (v4 v5 : Value) (k : Nat) : Prop where
  o4 : OwI wz w.heap.size v4 (mixR ps k)
  o5 : OwN wz w.heap.size v5 (posL ps n)
  ct : BK wz C (rowF (ps.length + 1) (fun r => cntK ps k r)) 3
  bl : Below w.heap.size w wz
  ok : ∀ i, i < k → isJ (psAt ps i).1 = true → 0 ≤ toP ps i
  ap : ApartV v4 v5
  l4 : ∀ j, v4.ownBlock = some j → j < C
  l5 : ∀ j, v5.ownBlock = some j → j < C
  c0 : w.heap.size ≤ C
theorem CtSt.below {w wz w' : World} {n C k : Nat} {ps : List (IN × Nat)} {v4 v5 : Value} (h : CtSt w wz n C ps v4 v5 k) (hb : Below wz.heap.size wz w') : CtSt w w' n C ps v4 v5 k :=
  { h with o4 := ow_below h.o4 hb, o5 := ow_below h.o5 hb, ct := h.ct.below hb, bl := bl_thenA h.bl hb }
theorem CtSt.drewN {w wz : World} {n C k : Nat} {ps : List (IN × Nat)} {v4 v5 : Value} (h : CtSt w wz n C ps v4 v5 k) (q : Nat) : CtSt w (wz.drewN q) n C ps v4 v5 k := h.below (bl_drewN (Below.refl _ _) q)
theorem CtSt.no {w wz : World} {n C k : Nat} {ps : List (IN × Nat)} {v4 v5 : Value} (h : CtSt w wz n C ps v4 v5 k) (hk : k < ps.length) (hj : isJ (psAt ps k).1 = false) : CtSt w wz n C ps v4 v5 (k + 1) :=
  { h with
    o4 := by rw [mixR_skip hk hj]; exact h.o4
    ct := by
      have e : (fun r => cntK ps (k + 1) r) = fun r => cntK ps k r := funext fun r => cntK_no hj r
      rw [e]; exact h.ct
    ok := fun i hi hji => by
      by_cases e : i = k
      · subst e; rw [hj] at hji; cases hji
      · exact h.ok i (by omega) hji }
theorem CtSt.yes {w wz : World} {n C k g c to : Nat} {ps : List (IN × Nat)} {v5 : Value} {m : Nat} (h : CtSt w wz n C ps (.slice (some ⟨g, 0, none⟩) m c) v5 k) (hm : ps.length = m) (hk : k < ps.length) (hj : isJ (psAt ps k).1 = true) (ht : toP ps k = (to : Int)) :
    CtSt w ((wz.setCell ⟨g, k * 2 + 1, none⟩ (.int .i64 (to : Int))).setCell ⟨C, to, none⟩ (.int .i64 (cntK ps k to + 1))) n C ps (.slice (some ⟨g, 0, none⟩) m c) v5 (k + 1) :=
  have hg4 : g < C := h.l4 g (by simp [Value.ownBlock])
  have hlo : w.heap.size ≤ g := ow_lo h.o4 g (by simp [Value.ownBlock])
  have hap : v5.ownBlock ≠ some g := fun e => h.ap g (by simp [Value.ownBlock]) e
  have hC5 : v5.ownBlock ≠ some C := fun e => by have := h.l5 C e; omega
  { h with
    o4 := by
      have e1 := h.o4.put (by rw [mixR_len]; exact hm) k (by rw [mixR_len]; exact hk) (to : Int)
      have e2 : (mixR ps k).set k ⟨((mixR ps k)[k]'(by rw [mixR_len]; exact hk)).op, (to : Int)⟩ = mixR ps (k + 1) := by
        rw [← mixR_set hk]
        congr 1
        have e3 := mixR_at (k := k) hk
        rw [if_neg (by omega), List.getElem?_eq_getElem (by rw [mixR_len]; exact hk)] at e3
        rw [Option.some.inj e3]
        unfold resF
        rw [if_pos hj, ht]
      rw [e2] at e1
      exact World.ownsRow.kept e1 (gr_set _ _ _ _) (by right; simp [Value.ownBlock]; omega)
    o5 := ow_apart (ow_apart h.o5 (gr_set _ _ _ _) (fun j hj e => by cases hj; exact hap e)) (gr_set _ _ _ _) (fun j hj e => by cases hj; exact hC5 e)
    ct := by
      have e : (fun r => cntK ps (k + 1) r) = fun r => if r = to then cntK ps k to + 1 else cntK ps k r := funext fun r => cntK_yes hj ht r
      rw [e, ← rowF_set]
      exact (h.ct.setO (by omega) _ _).set to _
    bl := (h.bl.setCell (p := ⟨g, k * 2 + 1, none⟩) hlo _).setCell (p := ⟨C, to, none⟩) h.c0 _
    ok := fun i hi hji => by
      by_cases e : i = k
      · subst e; rw [ht]; omega
      · exact h.ok i (by omega) hji }
theorem ct_start {w wr w8 : World} {b : List UInt8} {n k f p g8 c8 : Nat} {ps : List (IN × Nat)} {v4 v5 : Value} {o : Obj} (HS : RrSt w wr b n ps k f v4 v5) (hp : ps.length = p)
    (ho8 : w8.ownsRow w.heap.size 3 1 (.slice (some ⟨g8, 0, none⟩) (p + 1) c8) (p + 1) ((begsGo ps 0).map (Value.int .i64) ++ [.int .i64 (n : Int)])) (hg8 : (wr.alloc o).grownBy w8 v5.ownBlock)
    (hat8 : v5.ownBlock = some g8 ∨ g8 = (wr.alloc o).heap.size) (hlt8 : g8 < w8.heap.size) :
    CtSt w (w8.alloc (.cells (rowF (p + 1) (fun _ => 0)).toArray 3)) n w8.heap.size ps v4 (.slice (some ⟨g8, 0, none⟩) (p + 1) c8) 0 := by
  have hsz := HS.bl.size
  have s8 := hg8.size
  rw [World.size_alloc] at s8
  have hp5 : ∀ j, v5.ownBlock = some j → w.heap.size ≤ j := fun j hj => ow_lo HS.o5 j hj
  have hh4 : ∀ j, v4.ownBlock = some j → j < wr.heap.size := fun j hj => (World.ownsRow.lt HS.o4 j hj).2
  have b8 : Below w.heap.size w w8 := (bl_a HS.bl o).grown hg8 (bl_a HS.bl o).size (fun j hj => hp5 j hj)
  have o4' : OwI w8 w.heap.size v4 (ps.map (·.1)) := ow_apart (ow_below HS.o4 (bl_one wr o)) hg8 (fun j hj e => HS.ap j e hj)
  have o5' : OwN w8 w.heap.size (.slice (some ⟨g8, 0, none⟩) (p + 1) c8) (posL ps n) := by
    unfold posL
    exact OwN.snoc (by rw [begs_len, hp]; exact ho8)
  refine { o4 := ?_, o5 := ow_below o5' (bl_one w8 _), ct := ?_, bl := bl_a b8 _, ok := fun i hi => by omega, ap := ?_, l4 := fun j hj => by have := hh4 j hj; omega, l5 := fun j hj => ?_, c0 := b8.size }
  · rw [mixR_zero]; exact ow_below o4' (bl_one w8 _)
  · have e : (fun r => cntK ps 0 r) = fun _ => 0 := funext fun r => by simp [cntK]
    rw [e, hp]; exact BK.new w8 _ _
  · intro j hj e
    have e2 : g8 = j := by simpa [Value.ownBlock] using e
    subst e2
    rcases hat8 with h | h
    · exact HS.ap _ hj h
    · rw [World.size_alloc] at h
      have := hh4 _ hj; omega
  · have e2 : g8 = j := by simpa [Value.ownBlock] using hj
    omega
theorem toP_none {ps : List (IN × Nat)} (hp : ∀ p ∈ ps, 1 ≤ p.2) {k : Nat} (hk : k < ps.length) (hj : isJ (psAt ps k).1 = true) (h : toP ps k < 0) : resD ps ps 0 = none := by
  refine resD_none ps 0 k hk (by rw [← psAt_get hk]; exact hj) ?_
  rw [Nat.zero_add]
  cases hf : findB ps (tgD ps k ps[k]) with
  | none => rfl
  | some r =>
    have := toK_some hp hf
    unfold toP at h
    rw [psAt_get hk, this] at h
    omega
/-- What has been laid behind q places. -/
def LabSt (rs : List IN) (q : Nat) (L : List IN) : Prop := if q ≤ rs.length then L ++ labGo rs (fun i => (i : Int)) (rs.drop q) q = labGo rs (fun i => (i : Int)) rs 0 else L = labGo rs (fun i => (i : Int)) rs 0
theorem labSt_zero (rs : List IN) : LabSt rs 0 [] := by unfold LabSt; rw [if_pos (Nat.zero_le _)]; rfl
def labIf (rs : List IN) (q : Nat) : List IN := if askI rs q = true then [⟨38, (q : Int)⟩] else []
theorem labSt_step {rs : List IN} {q : Nat} {L : List IN} (hr : RsOk rs) (hq : q < rs.length) (h : LabSt rs q L) : LabSt rs (q + 1) (L ++ labIf rs q ++ [rs[q]]) := by
  unfold LabSt at *
  rw [if_pos (by omega)] at h
  rw [if_pos (by omega), ← h, List.drop_eq_getElem_cons hq, labGo]
  have e : (if isJ rs[q] = true then (⟨rs[q].op, (rs[q].arg.toNat : Int)⟩ : IN) else rs[q]) = rs[q] := by
    split
    · rename_i hj
      have := ((hr rs[q] (List.getElem_mem hq)).2 hj).1
      have e2 : ((rs[q].arg.toNat : Nat) : Int) = rs[q].arg := by omega
      rw [e2]
    · rfl
  rw [e]
  unfold labIf
  simp
theorem labSt_last {rs : List IN} {L : List IN} (h : LabSt rs rs.length L) : LabSt rs (rs.length + 1) (L ++ labIf rs rs.length) := by
  unfold LabSt at *
  rw [if_pos (Nat.le_refl _), List.drop_of_length_le (Nat.le_refl _), labGo] at h
  rw [if_neg (by omega), ← h]
  rfl
theorem labSt_end {rs : List IN} {L : List IN} (h : LabSt rs (rs.length + 1) L) : L = labGo rs (fun i => (i : Int)) rs 0 := by
  unfold LabSt at h
  rw [if_neg (by omega)] at h; exact h
theorem lab_inw {rs : List IN} (hr : RsOk rs) (hw : ∀ x ∈ rs, InW x) (hl : rs.length ≤ 1000000) : ∀ x ∈ labGo rs (fun i => (i : Int)) rs 0, InW x := by
  have key : ∀ (t : List IN) (i : Nat), (∀ x ∈ t, x ∈ rs) → i + t.length ≤ 1000000 → ∀ x ∈ labGo rs (fun i => (i : Int)) t i, InW x := by
    intro t
    induction t with
    | nil =>
      intro i _ hi x hx
      rw [labGo] at hx
      split at hx
      · simp at hx; subst hx; simp at hi; exact ⟨by unfold Wf; simp, (show Wf (i : Int) from by unfold Wf; omega)⟩
      · cases hx
    | cons y t ih =>
      intro i hs hi x hx
      simp at hi
      rw [labGo] at hx
      rcases List.mem_append.1 hx with h | h
      · split at h
        · simp at h; subst h; exact ⟨by unfold Wf; simp, (show Wf (i : Int) from by unfold Wf; omega)⟩
        · cases h
      · rcases List.mem_cons.1 h with h | h
        · have hy := hw y (hs y (List.mem_cons_self ..))
          have hr' := hr y (hs y (List.mem_cons_self ..))
          subst h
          split
          · rename_i hj
            have := hr'.2 hj
            exact ⟨hy.1, (show Wf ((y.arg.toNat : Nat) : Int) from by unfold Wf; omega)⟩
          · exact hy
        · exact ih (i + 1) (fun x hx => hs x (List.mem_cons_of_mem _ hx)) (by omega) x h
  exact key rs 0 (fun x hx => hx) (by omega)
end Go.Proofs.YtbcpopakdlplgaaDoor
