/- Contract of slices.SortFunc at entries. -/
import Derived.Test.YtjggklfegcejhaaGreatDictAdd
import Derived.Test.YtjggklfegcejhaaGreatShelfB
import Derived.Shelf.SlSortCmp.WholeK
namespace Go.Proofs.YtjggklfegcejhaaGreat
open Go.RowKit Go.PlainAid Go.Shelf Go.Lib Go.Sort
set_option linter.unusedVariables false
set_option linter.unusedSimpArgs false

instance : Inhabited EnC := ⟨⟨[], 0⟩⟩
/-- The closure by which Make sorts. -/
theorem sortCmpE (x y : EnC) (w : World) : Calls Tryz.prog 43 #[.agg (enCells x).toArray, .agg (enCells y).toArray] w fun e w' => e = .returned (.int .i64 (cmpS x.wd y.wd)) ∧ w' = (w.alloc (.cells (enCells x).toArray 73)).alloc (.cells (enCells y).toArray 73) := by
  have HC := Lib.hid (fun w => cmpE x.wd y.wd w)
  unfold enCells
  go_enter Tryz.func43, Tryz.ntmps43
  go_wp2_with (go_at_call 44; refine (HC.out _).mono ?_; rintro e w' ⟨rfl, rfl⟩)
  go_ret
  exact ⟨rfl, rfl⟩
theorem sortLaysE (blk off size : Nat) (w : World) : CmpLays Tryz.prog 43 #[] enCells 2 (fun x y => cmpS x.wd y.wd) blk off size w :=
  fun _ _ _ _ x y => (sortCmpE x y _).mono fun e w' h => ⟨h.1, 0, #[.cells (enCells x).toArray 73] ++ #[.cells (enCells y).toArray 73], h.2.trans (by rw [alloc_eq_grow, alloc_eq_grow, grow_grow]; rfl)⟩
theorem ltE_eq (x y : EnC) : ltOf (fun x y : EnC => cmpS x.wd y.wd) x y = ltS x.wd y.wd := cmpS_lt _ _
theorem swoE : SWO (ltOf fun x y : EnC => cmpS x.wd y.wd) where
  irrefl x := by rw [ltE_eq, ltS_irrefl]
  trans x y z h1 h2 := by rw [ltE_eq] at *; exact ltS_trans h1 h2
  ntrans x y z h1 h2 := by
    rw [ltE_eq] at *
    cases h : ltS x.wd z.wd with
    | false => rfl
    | true =>
      cases h3 : ltS y.wd x.wd with
      | true => rw [ltS_trans h3 h] at h2; cases h2
      | false => rw [ltS_eq h1 h3] at h; rw [h] at h2; cases h2
theorem sortWE_grown (w : World) (g off n : Nat) (d : Array EnC) (os : Array Obj) (hg : g < w.heap.size) : w.grownBy (sortWorldK enCells 2 w g off n d os) (some g) := by
  refine ⟨rfl, rfl, rfl, size_sortWorldK_c _ _ _ _ _ _ _ _, fun k hk hne => ?_⟩
  unfold sortWorldK
  rw [heap_grow_old _ _ (by rw [size_putRowK]; exact hk)]
  have : g ≠ k := fun e => hne (by rw [e])
  simp [putRowK, putRow, mapBlock, Array.getElem?_modify, this, Sort.ahead]
theorem ownE_holds {w : World} {base : Nat} {v : Value} {L : List EnC} (h : OwE w base v L) (h0 : 0 < L.length) : ∃ g c, v = .slice (some ⟨g, 0, none⟩) L.toArray.size c ∧ L.length ≤ c ∧ base ≤ g ∧ g < w.heap.size ∧ HoldsK enCells 2 w g 0 L.toArray := by
  have hc := @World.ownsRow.cells
  unfold OwE at h
  rcases h.2 with ⟨_, h1⟩ | ⟨g, cap, cur, e, hb, hg, hn, hm, hcs, ht⟩
  · cases L with
    | nil => simp at h0
    | cons x t => simp [enCells] at h1
  · have hlt := lt_of_block hg
    refine ⟨g, cap, by simp [e], hn, hb, hlt, fun j hj => ?_⟩
    have hj' : j < L.length * 2 := by simpa using hj
    have e1 : j / 2 < L.length := by omega
    have e2 : j / 2 * 2 + j % 2 = j := by omega
    have hf := flat_at (k := 2) (L.map enCells) (fun r hr => by obtain ⟨x, _, rfl⟩ := List.mem_map.1 hr; rfl) (j / 2) (j % 2) (by simpa using e1) (by omega)
    rw [e2] at hf
    rw [get_flatK _ _ _ _ (by simpa using hj')]
    have e3 : L.toArray[j / 2]! = L[j / 2] := by simp [e1]
    rw [e3]
    have hl : j % 2 < (enCells L[j / 2]).length := by show j % 2 < 2; omega
    have e4 : ((L.map enCells)[j / 2]'(by simpa using e1))[j % 2]? = some ((enCells L[j / 2])[j % 2]!) := by
      rw [List.getElem_map, List.getElem?_eq_getElem hl, getElem!_pos (enCells L[j / 2]) (j % 2) hl]
    rw [e4] at hf
    have h2 := h.cells (g := g) (by rw [e]; rfl) j _ hf
    rw [addr0] at h2
    rw [Nat.zero_add]
    exact ⟨h2, by simp [World.frozen?, hg]⟩
theorem holdsE_reads {w : World} {g c : Nat} {D : List EnC} (h : HoldsK enCells 2 w g 0 D.toArray) (hg : g < w.heap.size) (hc : D.length ≤ c) (hm : D.length ≤ maxLen) (hok : ∀ x ∈ D, EnOk x) : Reads Cd.en.seq w (.slice (some ⟨g, 0, none⟩) D.length c) D := by
  refine ⟨_, D.map enCells, rfl, ⟨⟨by simpa using hm, fun r hr => by obtain ⟨x, _, rfl⟩ := List.mem_map.1 hr; rfl, .inr ⟨g, 0, c, by simp, hg, fun i j hi hj => ?_⟩⟩, some ⟨g, 0, none⟩, c, by simp, by simpa using hc⟩, by simp, fun i h1 h2 => ?_⟩
  · have hi' : i < D.length := by simpa using hi
    have := (HoldsK.cell h (i := i) (c := j) (by simpa using hi') hj).1
    refine this.trans ?_
    have e3 : D.toArray[i]! = D[i] := by simp [hi']
    have hl : j < (enCells D[i]).length := hj
    rw [e3, List.getElem_map, List.getElem?_eq_getElem hl, getElem!_pos (enCells D[i]) j hl]
  · have := hok D[i] (List.getElem_mem _)
    exact ⟨by rw [List.getElem_map], this.1, this.2⟩
theorem sortedE_rises {L : List EnC} {d : Array EnC} (hp : PermIn 0 L.toArray.size L.toArray d) (hs : SortedIn (ltOf fun x y : EnC => cmpS x.wd y.wd) 0 L.toArray.size d) (hn : (L.map (·.wd)).Nodup) : RisesE d.toList ∧ d.toList.Perm L := by
  obtain ⟨h1, _, h2⟩ := hp
  have hsz : d.size = L.length := by simpa using h1
  have hperm : d.toList.Perm L := by
    have e : d.extract 0 L.toArray.size = d := by rw [← h1]; exact Array.extract_size
    rw [e] at h2; simpa using h2
  refine ⟨?_, hperm⟩
  refine List.pairwise_iff_getElem.2 fun i j hi hj hij => ?_
  have hi' : i < d.size := by simpa using hi
  have hj' : j < d.size := by simpa using hj
  have h3 := hs i j (Nat.zero_le _) hij (by simpa [hsz] using hj')
  rw [ltE_eq, getElem!_pos d i hi', getElem!_pos d j hj'] at h3
  have hnd : (d.toList.map (·.wd)).Nodup := (hperm.map (·.wd)).nodup_iff.2 hn
  have hne : (d.toList[i]).wd ≠ (d.toList[j]).wd := fun e => by
    have := (List.pairwise_iff_getElem.1 hnd) i j (by simpa using hi) (by simpa using hj) hij
    simp at this
    exact this (by simpa using e)
  cases h4 : ltS (d.toList[i]).wd (d.toList[j]).wd with
  | true => rfl
  | false => exact absurd (ltS_eq h4 (by simpa using h3)) hne
theorem dictSort (v : Value) (L : List EnC) (w : World) (base : Nat) (ho : OwE w base v L) (hn : (L.map (·.wd)).Nodup) (h0 : 0 < L.length) (hl : L.length ≤ 100000) (hok : ∀ x ∈ L, EnOk x) :
    Calls Tryz.prog 42 #[v, .func (.func 43) #[] #[]] w fun e w' => e = .returned (.tuple #[]) ∧ ∃ D, RisesE D ∧ D.Perm L ∧ Reads Cd.en.seq w' v D ∧ w.grownBy w' v.ownBlock := by
  obtain ⟨g, c, rfl, hc, hb, hlt, hH⟩ := ownE_holds ho h0
  have eg : ∀ args w, (callFunc 43 args).run Tryz.prog w = .ok (.enter 43 args) w := enters_of Tryz.func43 (by kernel_rfl) rfl
  have h := AnyQ.slices_SortFunc Tryz.sortEntries 2 Tryz.isAgg73 Tryz.sizeOf73 enCells (fun _ => rfl) enCells_one (fun x y => cmpS x.wd y.wd) swoE 43 #[] g 0 c L.toArray w eg (sortLaysE g 0 L.toArray.size w) hH hlt (by simp; omega)
  refine Calls.mono h ?_
  rintro e w' ⟨he, d', n, os, hp, hs, rfl⟩
  obtain ⟨h1, h2⟩ := sortedE_rises hp hs hn
  refine ⟨he, d'.toList, h1, h2, ?_, sortWE_grown _ _ _ _ _ _ hlt⟩
  have hsz : d'.size = L.toArray.size := hp.1
  have hH' := holdsK_sortWorldK_c enCells 2 w g 0 L.toArray d' n os hH hlt hsz
  have e2 : L.toArray.size = d'.toList.length := by rw [h2.length_eq]; simp
  have hl2 : d'.toList.length = L.length := h2.length_eq
  rw [e2]
  exact holdsE_reads (by simpa using hH') (Nat.lt_of_lt_of_le hlt (size_sortWorldK_c _ _ _ _ _ _ _ _)) (by omega) (by unfold maxLen; omega) (fun x hx => hok x (h2.mem_iff.1 hx))
end Go.Proofs.YtjggklfegcejhaaGreat
