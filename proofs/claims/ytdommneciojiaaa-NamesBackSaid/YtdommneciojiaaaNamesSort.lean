/- Contract of slices.SortFunc at names. -/
import Derived.Test.YtdommneciojiaaaNamesAdd
import Derived.Test.YtdommneciojiaaaShelf
import Derived.Shelf.SlSortCmp.WholeK
namespace Go.Proofs.Ytdommneciojiaaa
open Go.RowKit Go.PlainAid Go.Shelf Go.Lib Go.Sort
set_option linter.unusedVariables false
set_option linter.unusedSimpArgs false

instance : Inhabited NM := ⟨⟨[], 0, 0⟩⟩
theorem sortLays (blk off size : Nat) (w : World) : CmpLays Try.prog 27 #[] nmCells 3 (fun x y => cmpS x.nm y.nm) blk off size w :=
  fun _ _ _ _ x y => (sortCmp x y _).mono fun e w' h => ⟨h.1, 0, #[.cells (nmCells x).toArray 46] ++ #[.cells (nmCells y).toArray 46], h.2.trans (by rw [alloc_eq_grow, alloc_eq_grow, grow_grow]; rfl)⟩
theorem ltN_eq (x y : NM) : ltOf (fun x y : NM => cmpS x.nm y.nm) x y = ltS x.nm y.nm := cmpS_lt _ _
theorem swoN : SWO (ltOf fun x y : NM => cmpS x.nm y.nm) where
  irrefl x := by rw [ltN_eq, ltS_irrefl]
  trans x y z h1 h2 := by rw [ltN_eq] at *; exact ltS_trans h1 h2
  ntrans x y z h1 h2 := by
    rw [ltN_eq] at *
    cases h : ltS x.nm z.nm with
    | false => rfl
    | true =>
      cases h3 : ltS y.nm x.nm with
      | true => rw [ltS_trans h3 h] at h2; cases h2
      | false => rw [ltS_eq h1 h3] at h; rw [h] at h2; cases h2
theorem sortW_grown (w : World) (g off n : Nat) (d : Array NM) (os : Array Obj) (hg : g < w.heap.size) : w.grownBy (sortWorldK nmCells 3 w g off n d os) (some g) := by
  refine ⟨rfl, rfl, rfl, size_sortWorldK_c _ _ _ _ _ _ _ _, fun k hk hne => ?_⟩
  unfold sortWorldK
  rw [heap_grow_old _ _ (by rw [size_putRowK]; exact hk)]
  have : g ≠ k := fun e => hne (by rw [e])
  simp [putRowK, putRow, mapBlock, Array.getElem?_modify, this, Sort.ahead]
theorem own_holds {w : World} {base : Nat} {v : Value} {L : List NM} (h : OwN w base v L) (h0 : 0 < L.length) : ∃ g c, v = .slice (some ⟨g, 0, none⟩) L.toArray.size c ∧ L.length ≤ c ∧ base ≤ g ∧ g < w.heap.size ∧ HoldsK nmCells 3 w g 0 L.toArray := by
  have hc := @World.ownsRow.cells
  unfold OwN at h
  rcases h.2 with ⟨_, h1⟩ | ⟨g, cap, cur, e, hb, hg, hn, hm, hcs, ht⟩
  · omega
  · have hlt := lt_of_block hg
    refine ⟨g, cap, by simp [e], hn, hb, hlt, fun j hj => ?_⟩
    have hj' : j < L.length * 3 := by simpa using hj
    have e1 : j / 3 < L.length := by omega
    have e2 : j / 3 * 3 + j % 3 = j := by omega
    have hf := flat_at (k := 3) (L.map nmCells) (fun r hr => by obtain ⟨x, _, rfl⟩ := List.mem_map.1 hr; rfl) (j / 3) (j % 3) (by simpa using e1) (by omega)
    rw [e2] at hf
    rw [get_flatK _ _ _ _ (by simpa using hj')]
    have e3 : L.toArray[j / 3]! = L[j / 3] := by simp [e1]
    rw [e3]
    have hl : j % 3 < (nmCells L[j / 3]).length := by show j % 3 < 3; omega
    have e4 : ((L.map nmCells)[j / 3]'(by simpa using e1))[j % 3]? = some ((nmCells L[j / 3])[j % 3]!) := by
      rw [List.getElem_map, List.getElem?_eq_getElem hl, getElem!_pos (nmCells L[j / 3]) (j % 3) hl]
    rw [e4] at hf
    have h2 := h.cells (g := g) (by rw [e]; rfl) j _ hf
    rw [addr0] at h2
    rw [Nat.zero_add]
    exact ⟨h2, by simp [World.frozen?, hg]⟩
/-- What a name's fields are. -/
def NmOk (x : NM) : Prop := x.nm.length ≤ maxLen ∧ (Lit.int .i64 x.kd).wf = true ∧ (Lit.int .i64 x.nu).wf = true
theorem holds_reads {w : World} {g c : Nat} {D : List NM} (h : HoldsK nmCells 3 w g 0 D.toArray) (hg : g < w.heap.size) (hc : D.length ≤ c) (hm : D.length ≤ maxLen) (hok : ∀ x ∈ D, NmOk x) : Reads Cd.nm.seq w (.slice (some ⟨g, 0, none⟩) D.length c) D := by
  refine ⟨_, D.map nmCells, rfl, ⟨⟨by simpa using hm, fun r hr => by obtain ⟨x, _, rfl⟩ := List.mem_map.1 hr; rfl, .inr ⟨g, 0, c, by simp, hg, fun i j hi hj => ?_⟩⟩, some ⟨g, 0, none⟩, c, by simp, by simpa using hc⟩, by simp, fun i h1 h2 => ?_⟩
  · have hi' : i < D.length := by simpa using hi
    have := (HoldsK.cell h (i := i) (c := j) (by simpa using hi') hj).1
    refine this.trans ?_
    have e3 : D.toArray[i]! = D[i] := by simp [hi']
    have hl : j < (nmCells D[i]).length := hj
    rw [e3, List.getElem_map, List.getElem?_eq_getElem hl, getElem!_pos (nmCells D[i]) j hl]
  · have := hok D[i] (List.getElem_mem _)
    exact ⟨by rw [List.getElem_map], this.1, this.2.1, this.2.2⟩
theorem sorted_rises {L : List NM} {d : Array NM} (hp : PermIn 0 L.toArray.size L.toArray d) (hs : SortedIn (ltOf fun x y : NM => cmpS x.nm y.nm) 0 L.toArray.size d) (hn : (L.map (·.nm)).Nodup) : d.toList = sortN L := by
  obtain ⟨h1, _, h2⟩ := hp
  have hsz : d.size = L.length := by simpa using h1
  have hperm : d.toList.Perm L := by
    have e : d.extract 0 L.toArray.size = d := by rw [← h1]; exact Array.extract_size
    rw [e] at h2; simpa using h2
  refine rises_eq _ _ ?_ (sort_rises L hn) (hperm.trans (sort_perm L).symm)
  refine List.pairwise_iff_getElem.2 fun i j hi hj hij => ?_
  have hi' : i < d.size := by simpa using hi
  have hj' : j < d.size := by simpa using hj
  have h3 := hs i j (Nat.zero_le _) hij (by simpa [hsz] using hj')
  rw [ltN_eq, getElem!_pos d i hi', getElem!_pos d j hj'] at h3
  have hnd : (d.toList.map (·.nm)).Nodup := (hperm.map (·.nm)).nodup_iff.2 hn
  have hne : (d.toList[i]).nm ≠ (d.toList[j]).nm := fun e => by
    have := (List.pairwise_iff_getElem.1 hnd) i j (by simpa using hi) (by simpa using hj) hij
    simp at this
    exact this (by simpa using e)
  cases h4 : ltS (d.toList[i]).nm (d.toList[j]).nm with
  | true => rfl
  | false => exact absurd (ltS_eq h4 (by simpa using h3)) hne
theorem namesSort (v : Value) (L : List NM) (w : World) (base : Nat) (ho : OwN w base v L) (hn : (L.map (·.nm)).Nodup) (h0 : 0 < L.length) (hl : L.length ≤ 100000) (hok : ∀ x ∈ L, NmOk x) :
    Calls Try.prog 26 #[v, .func (.func 27) #[] #[]] w fun e w' => e = .returned (.tuple #[]) ∧ Reads Cd.nm.seq w' v (sortN L) ∧ w.grownBy w' v.ownBlock := by
  obtain ⟨g, c, rfl, hc, hb, hlt, hH⟩ := own_holds ho h0
  have eg : ∀ args w, (callFunc 27 args).run Try.prog w = .ok (.enter 27 args) w := enters_of Try.func27 (by kernel_rfl) rfl
  have h := AnyQ.slices_SortFunc Try.sortNames 3 Try.isAgg46 Try.sizeOf46 nmCells (fun _ => rfl) nmCells_one (fun x y => cmpS x.nm y.nm) swoN 27 #[] g 0 c L.toArray w eg (sortLays g 0 L.toArray.size w) hH hlt (by simp; omega)
  refine Calls.mono h ?_
  rintro e w' ⟨he, d', n, os, hp, hs, rfl⟩
  refine ⟨he, ?_, sortW_grown _ _ _ _ _ _ hlt⟩
  have hd := sorted_rises hp hs hn
  have hsz : d'.size = L.toArray.size := hp.1
  have hH' := holdsK_sortWorldK_c nmCells 3 w g 0 L.toArray d' n os hH hlt hsz
  have e1 : d' = (sortN L).toArray := by rw [← hd]
  have e2 : L.toArray.size = (sortN L).length := by rw [(sort_perm L).length_eq]; simp
  have hl2 : (sortN L).length = L.length := (sort_perm L).length_eq
  rw [e1] at hH'
  rw [e2, e1]
  exact holds_reads hH' (Nat.lt_of_lt_of_le hlt (size_sortWorldK_c _ _ _ _ _ _ _ _)) (by omega) (by unfold maxLen; omega) (fun x hx => hok x ((sort_perm L).mem_iff.1 hx))
end Go.Proofs.Ytdommneciojiaaa
