/- Contract of the closure by which names.Make adds a name. -/
import Derived.Test.YtdommneciojiaaaNamesMap
import Derived.Deep.AppendLies
namespace Go.Proofs.Ytdommneciojiaaa
open Go.RowKit Go.PlainAid Go.Maps
set_option linter.unusedVariables false
set_option linter.unusedSimpArgs false

theorem Try.infoName : (Try.prog.info? 46).map (fun i => (i.zero, i.size, i.bytes)) = some (some (.agg #[.string ByteArray.empty, .int .i64 0, .int .i64 0]), 3, 32) := by kernel_rfl
/-- Names that the call owns. -/
def OwN (w : World) (base : Nat) (v : Value) (L : List NM) : Prop := w.ownsRow base 46 3 v L.length ((L.map nmCells).flatten)
theorem OwN.nil (w : World) (base : Nat) : OwN w base (.slice none 0 0) [] := World.ownsRow_nil _ _ _ _
theorem OwN.snoc {w : World} {base : Nat} {v : Value} {L : List NM} {x : NM} (h : w.ownsRow base 46 3 v (L.length + 1) ((L.map nmCells).flatten ++ nmCells x)) : OwN w base v (L ++ [x]) := by
  unfold OwN; simpa using h
/-- What Make's variables hold. B: its first block. -/
structure MkS (w : World) (B : Nat) (src : List Value) (v : Value) (out : List NM) : Prop where
  size : B + 5 ≤ w.heap.size
  bs : BK w B src 39
  bf : BK w (B + 1) [.int .i64 0, .int .i64 0, .int .i64 0, .string ⟨#[]⟩] 30
  met : MetIs w (B + 2) out.length (out.map (·.nm))
  bm : BK w (B + 3) [.map (some (B + 2))] 59
  bo : BK w (B + 4) [v] 27
  own : OwN w (B + 5) v out
/-- It stays while other blocks are made. -/
theorem MkS.below {w w' : World} {B : Nat} {src : List Value} {v : Value} {out : List NM} (h : MkS w B src v out) (hb : Below w.heap.size w w') : MkS w' B src v out :=
  ⟨Nat.le_trans h.size hb.size, h.bs.below hb, h.bf.below hb, h.met.kept (row := none) (gr_below hb) (by simp), h.bm.below hb, h.bo.below hb, ow_below h.own hb⟩
theorem MkS.put {w w2 w5 : World} {B : Nat} {src : List Value} {v v' : Value} {out : List NM} {x : NM} {o : Obj} (h : MkS w B src v out) (hg1 : w.grownBy w2 (some (B + 2))) (hm : MetIs w2 (B + 2) (out.length + 1) (out.map (·.nm) ++ [x.nm]))
    (hg2 : (w2.alloc o).grownBy w5 v.ownBlock) (hown : w5.ownsRow (B + 5) 46 3 v' (out.length + 1) ((out.map nmCells).flatten ++ nmCells x)) : MkS (w5.setCell ⟨B + 4, 0, none⟩ v') B src v' (out ++ [x]) := by
  have hlo := ow_lo h.own
  have hk := fun (j : Nat) (hj : v.ownBlock = some j) (c : Nat) (hc : c < B + 5) => (show j ≠ c by have := hlo j hj; omega)
  have hs1 := hg1.size
  have hs2 := hg2.size
  rw [World.size_alloc] at hs2
  have hz := h.size
  have e1 : ∀ c, c ≠ B + 2 → ∀ j, some (B + 2) = some j → j ≠ c := fun c hc j hj => by have := Option.some.inj hj; omega
  refine ⟨by simp [World.setCell]; omega, ?_, ?_, ?_, ?_, ?_, ?_⟩
  · exact (((h.bs.kept hg1 (e1 _ (by omega))).alloc o).kept hg2 (fun j hj => hk j hj _ (by omega))).setO (by omega) _ _
  · exact (((h.bf.kept hg1 (e1 _ (by omega))).alloc o).kept hg2 (fun j hj => hk j hj _ (by omega))).setO (by omega) _ _
  · have h1 : MetIs (w2.alloc o) (B + 2) (out.length + 1) (out.map (·.nm) ++ [x.nm]) := hm.kept (gr_alloc w2 o none) (by simp)
    have h2 := h1.kept hg2 (fun e => hk _ e _ (by omega) rfl)
    have h3 := h2.kept (gr_set w5 (B + 4) 0 v') (by simp)
    simpa using h3
  · exact (((h.bm.kept hg1 (e1 _ (by omega))).alloc o).kept hg2 (fun j hj => hk j hj _ (by omega))).setO (by omega) _ _
  · exact (((h.bo.kept hg1 (e1 _ (by omega))).alloc o).kept hg2 (fun j hj => hk j hj _ (by omega))).set 0 _
  · exact ow_grown (OwN.snoc hown) (gr_set _ _ _ _) (fun j hj => by have := Option.some.inj hj; omega)
theorem bB_s {B : Nat} {w x : World} {k : Nat} (h : Below B w x) (o : Nat) (u : Value) (hk : B ≤ k := by omega) : Below B w (x.setCell ⟨k, o, none⟩ u) := h.setCell hk u
/-- What stays though a name is added: every block but the map's, the variable's, the list's own; and the list lies where it lay, or in a new block. -/
structure Stays (w w' : World) (B : Nat) (v v' : Value) : Prop where
  block : ∀ k, k < w.heap.size → k ≠ B + 2 → k ≠ B + 4 → v.ownBlock ≠ some k → w'.heap[k]? = w.heap[k]?
  own : ∀ k, v'.ownBlock = some k → v.ownBlock = some k ∨ w.heap.size ≤ k
  size : w.heap.size ≤ w'.heap.size
theorem add_stays {w w2 w5 : World} {B : Nat} {v v' u : Value} {o1 o2 : Obj} (h1 : (w.alloc o1).grownBy w2 (some (B + 2))) (h2 : (w2.alloc o2).grownBy w5 v.ownBlock) (hv : ∀ k, v'.ownBlock = some k → v.ownBlock = some k ∨ w.heap.size ≤ k) : Stays w (w5.setCell ⟨B + 4, 0, none⟩ u) B v v' := by
  have z1 := h1.size
  have z2 := h2.size
  rw [World.size_alloc] at z1 z2
  refine ⟨fun k hk k2 k4 kv => ?_, hv, by simp [World.setCell]; omega⟩
  rw [Below.heap_setCell _ _ _ _ (by simpa using k4)]
  rw [h2.block k (by rw [World.size_alloc]; omega) (fun e => kv e.symm)]
  rw [Below.heap_alloc _ _ _ (by omega)]
  rw [h1.block k (by rw [World.size_alloc]; omega) (fun e => k2 (Option.some.inj e))]
  rw [Below.heap_alloc _ _ _ hk]
theorem nmCells_one (x : NM) : ∀ u ∈ nmCells x, u.oneCell' = true := one_all rfl
set_option maxRecDepth 100000 in
set_option maxHeartbeats 4000000 in
theorem namesAdd (x : NM) (w : World) (B : Nat) (src : List Value) (v : Value) (out : List NM) (hS : MkS w B src v out) (hx : x.nm.length ≤ maxLen) (ho : out.length ≤ 100000) :
    Calls Try.prog 24 #[.agg (nmCells x).toArray, .pointer (some ⟨B + 3, 0, none⟩), .pointer (some ⟨B + 4, 0, none⟩)] w fun e w' => e = .returned (.tuple #[]) ∧ ∃ v', MkS w' B src v' (out ++ [x]) ∧ Below B w w' ∧ Stays w w' B v v' := by
  have HS : Hid (MkS (w.alloc (.cells (nmCells x).toArray 46)) B src v out) := Lib.hid (hS.below (bl_a (Below.refl _ _) _))
  have hB0 : Hid (Below B w (w.alloc (.cells (nmCells x).toArray 46))) := Lib.hid ((Below.refl _ _).alloc (by have := hS.size; omega) _)
  have hz0 := hS.size
  have hal : ∀ o : Obj, (w.alloc o).cell? ⟨B + 3, 0, none⟩ = some (.map (some (B + 2))) := fun o => (hS.bm.alloc o).cell 0
  clear hS
  obtain ⟨va, vc, hv⟩ := ow_shape HS.out.own
  subst hv
  obtain ⟨i0, hi, hz1, hz2, hz3⟩ := info_parts Try.infoName
  have hbd : out.length + 1 ≤ maxLen ∧ (out.length + 1) * 32 ≤ 140737488355328 := by unfold maxLen; omega
  obtain ⟨D, hD1, hD2, hD3⟩ := HS.out.met
  obtain ⟨w2, hrun, hown2, hgrow2⟩ := hD1.update strKeyed Try.underlying59 (by unfold maxLen; omega) (strKey x.nm hx) (plainElem_bool Try.underlying4 true)
  have HM := Lib.hid (MetIs.put hown2 hD2 hD3)
  have hG2 := Lib.hid hgrow2
  have hnb : ∀ j, some (B + 2) = some j → j ≠ w.heap.size := fun j hj => by have := Option.some.inj hj; omega
  have hn4 : ∀ j, some (B + 2) = some j → j ≠ B + 4 := fun j hj => by have := Option.some.inj hj; omega
  have kx := (BK.new w (nmCells x) 46).kept hgrow2 hnb
  have k4 := HS.out.bo.kept hgrow2 hn4
  have HK4 := Lib.hid k4
  have x0 := kx.cell 0
  have x1 := kx.cell 1
  have x2 := kx.cell 2
  have c4 := k4.cell 0
  simp only [nmCells, List.getElem?_cons_zero, List.getElem?_cons_succ] at x0 x1 x2 c4
  have HO2 : Hid (w2.ownsRow (B + 5) 46 3 (.slice va out.length vc) out.length ((out.map nmCells).flatten)) := Lib.hid (World.ownsRow.kept HS.out.own hgrow2 (by
    cases hv : (Value.slice va out.length vc).ownBlock with
    | none => exact .inl rfl
    | some b => right; intro he; have := ow_lo HS.out.own b hv; have := Option.some.inj he; omega))
  have hrun2 : (Instr.mapUpdate 59 (.map (some (B + 2))) (.string ⟨x.nm.toArray⟩) (.bool true)).run Try.prog (w.alloc (.cells #[.string ⟨x.nm.toArray⟩, .int .i64 x.kd, .int .i64 x.nu] 46)) = .ok () w2 := hrun
  have hz2' : B + 5 ≤ w2.heap.size := Nat.le_trans HS.out.size hgrow2.size
  have hal2 : ∀ o : Obj, (w2.alloc o).cell? ⟨B + 4, 0, none⟩ = some (.slice va out.length vc) := fun o => (HK4.out.alloc o).cell 0
  have HB2 : Hid (Below B w w2) := Lib.hid (hB0.out.grown hgrow2 (by have := hB0.out.size; have := HS.out.size; omega) (fun j hj => by have := Option.some.inj hj; omega))
  have HKB := Lib.hid (fun (o : Obj) (w5 : World) (hg : (w2.alloc o).grownBy w5 (Value.slice va out.length vc).ownBlock) => (HK4.out.alloc o).kept hg (fun j hj => by have := ow_lo HS.out.own j hj; omega))
  clear hrun hown2 hgrow2 hnb hn4 kx k4 hD1 hD2 hD3
  unfold nmCells
  go_enter Try.func24, Try.ntmps24
  go_wp2_with (at_builtin; refine wpList_append_lies _ rfl _ _ 27 rfl (B + 5) 46 i0 _ 3 32 Try.underlying27 hi hz1 hz2 hz3 rfl (by decide) (.slice va out.length vc) out.length ((out.map nmCells).flatten) rfl (HO2.out.alloc _) ⟨w2.heap.size, 0, none⟩ 1 1 (nmCells x) rfl rfl (news_lit w2 (nmCells x) _) (nmCells_one x) (by decide) hbd.1 hbd.2 (ow_le hz2' _) (w2.heap.size + 1) (by simp) ?_; intro gg cap w5 hown5 hgrow5 hat hlt; have kb := HKB.out _ _ hgrow5; have cb := kb.cell 0; have fb := kb.fr 0; simp only [List.getElem?_cons_zero] at cb; clear kb)
  have HST := Lib.hid (add_stays (u := .slice (some ⟨gg, 0, none⟩) (out.length + 1) cap) (v' := .slice (some ⟨gg, 0, none⟩) (out.length + 1) cap) hG2.out hgrow5 (fun k hk => by
    have hkg : gg = k := by simpa [Value.ownBlock] using hk
    subst hkg
    rcases hat with h | h
    · exact .inl h
    · right; rw [h]; have := hG2.out.size; rw [World.size_alloc] at this; omega))
  have HS5 := Lib.hid (MkS.put HS.out hG2.out HM.out hgrow5 hown5)
  have HB5 : Hid (Below B w w5) := Lib.hid ((HB2.out.alloc (by omega) _).grown hgrow5 (by rw [World.size_alloc]; omega) (fun j hj => by have := ow_lo HS.out.own j hj; omega))
  clear hown5 hgrow5 hat hlt
  go_wp2
  go_end0
  exact ⟨rfl, _, HS5.out, bB_s HB5.out _ _, HST.out⟩
end Go.Proofs.Ytdommneciojiaaa
