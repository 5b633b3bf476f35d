/- A world that may be, of an argument.; What is reached is no more than there is; contracts of clewref23's has, shows, Here.; Contract of clewref23.reached. -/
import Derived.Test.YtjggklfegcejhaaRef25
import Derived.Test.YtjggklfegcejhaaHas
import Derived.Test.YtjggklfegcejhaaTwo
import Derived.Test.YtjggklfegcejhaaRef21
import Derived.Test.YtjggklfegcejhaaRef23
import Derived.Test.YtjggklfegcejhaaAnyM
import Derived.Laws.AppendOwnNone
namespace Go.Proofs.Ytjggklfegcejhaa
open Go.RowKit Go.PlainAid Go.ChangeShapes Go.WideShapes Go.Deep
set_option linter.unusedVariables false
set_option linter.unusedSimpArgs false

theorem array13 {α : Type} {a : Array α} (h : a.size = 13) : ∃ c0 c1 c2 c3 c4 c5 c6 c7 c8 c9 c10 c11 c12, a = #[c0, c1, c2, c3, c4, c5, c6, c7, c8, c9, c10, c11, c12] := by
  obtain ⟨l⟩ := a
  match l, h with
  | [c0, c1, c2, c3, c4, c5, c6, c7, c8, c9, c10, c11, c12], _ => exact ⟨c0, c1, c2, c3, c4, c5, c6, c7, c8, c9, c10, c11, c12, rfl⟩
theorem cells_wd : Try.prog.cellsOf 33 = 13 := by kernel_rfl
set_option maxRecDepth 100000 in
theorem world_open {H : Type} {enc : TypeId × Value → H} {w : World} {r : Reach} {b0 base : Nat} {spare : Nat → Bool} {held : Bool} {v : Value} {d : DataW H} {p : List MemPlace} (hv : Value.okWide Try.prog w r b0 33 v)
    (h : DataW.Trod enc Try.prog w base spare held 33 v d p) (hn : Near Try.prog 33 d) : ∃ (q : Wv) (e : WdC), v = worldV q ∧ WRd w q e := by
  obtain ⟨cs, rfl, hsz⟩ := okWide_struct Try.underlying33 hv
  obtain ⟨c0, c1, c2, c3, c4, c5, c6, c7, c8, c9, c10, c11, c12, rfl⟩ := array13 (hsz.trans cells_wd)
  obtain ⟨fuel, hf⟩ := h
  obtain ⟨h1, h2⟩ := near_fields Try.underlying33 (by kernel_rfl) (by kernel_rfl) hf hn
  obtain ⟨x0, y0⟩ := nearN_one (c := Cd.is) 0 _ h2 rfl (by simp [Value.cells]) opens_ints
  obtain ⟨x1, y1⟩ := nearN_one (c := Cd.is) 1 _ h2 rfl (by simp [Value.cells]) opens_ints
  obtain ⟨x2, y2⟩ := nearN_one (c := Cd.is) 2 _ h2 rfl (by simp [Value.cells]) opens_ints
  obtain ⟨x3, y3⟩ := nearN_one (c := Cd.is) 3 _ h2 rfl (by simp [Value.cells]) opens_ints
  obtain ⟨x4, y4⟩ := nearN_one (c := Cd.is) 4 _ h2 rfl (by simp [Value.cells]) opens_ints
  obtain ⟨x5, y5⟩ := nearN_one (c := Cd.is) 5 _ h2 rfl (by simp [Value.cells]) opens_ints
  obtain ⟨x6, y6⟩ := nearN_one (c := Cd.is) 6 _ h2 rfl (by simp [Value.cells]) opens_ints
  obtain ⟨x7, y7⟩ := nearN_one (c := Cd.int .u64) 7 _ h2 rfl (by simp [Value.cells]) (Opens.n (opens_int Try.underlying31))
  obtain ⟨x8, y8⟩ := nearN_one (c := Cd.i) 8 _ h2 rfl (by simp [Value.cells]) (Opens.n (opens_int Try.underlying3))
  obtain ⟨x9, y9⟩ := nearN_one (c := Cd.i) 9 _ h2 rfl (by simp [Value.cells]) (Opens.n (opens_int Try.underlying3))
  obtain ⟨x10, y10⟩ := nearN_one (c := Cd.i) 10 _ h2 rfl (by simp [Value.cells]) (Opens.n (opens_int Try.underlying3))
  obtain ⟨x11, y11⟩ := nearN_one (c := Cd.i) 11 _ h2 rfl (by simp [Value.cells]) (Opens.n (opens_int Try.underlying3))
  obtain ⟨x12, y12⟩ := nearN_one (c := Cd.i) 12 _ h2 rfl (by simp [Value.cells]) (Opens.n (opens_int Try.underlying3))
  obtain ⟨a0, k0, e0, _⟩ := Reads.len (v := c0) (Reads.q y0)
  obtain ⟨a1, k1, e1, _⟩ := Reads.len (v := c1) (Reads.q y1)
  obtain ⟨a2, k2, e2, _⟩ := Reads.len (v := c2) (Reads.q y2)
  obtain ⟨a3, k3, e3, _⟩ := Reads.len (v := c3) (Reads.q y3)
  obtain ⟨a4, k4, e4, _⟩ := Reads.len (v := c4) (Reads.q y4)
  obtain ⟨a5, k5, e5, _⟩ := Reads.len (v := c5) (Reads.q y5)
  obtain ⟨a6, k6, e6, _⟩ := Reads.len (v := c6) (Reads.q y6)
  have e7 : c7 = .int .u64 x7 := (Reads.int (v := c7) y7).1
  have e8 : c8 = .int .i64 x8 := (Reads.int (v := c8) y8).1
  have e9 : c9 = .int .i64 x9 := (Reads.int (v := c9) y9).1
  have e10 : c10 = .int .i64 x10 := (Reads.int (v := c10) y10).1
  have e11 : c11 = .int .i64 x11 := (Reads.int (v := c11) y11).1
  have e12 : c12 = .int .i64 x12 := (Reads.int (v := c12) y12).1
  subst e0 e1 e2 e3 e4 e5 e6 e7 e8 e9 e10 e11 e12
  exact ⟨⟨a0, a1, a2, a3, a4, a5, a6, x0.length, x1.length, x2.length, x3.length, x4.length, x5.length, x6.length, k0, k1, k2, k3, k4, k5, k6, x7, x8, x9, x10, x11, x12⟩, ⟨x0, x1, x2, x3, x4, x5, x6⟩, rfl, ⟨y0, y1, y2, y3, y4, y5, y6, y8.2, y9.2, y10.2, y11.2, y12.2⟩⟩
theorem RightOk.ok {t : TbC} {q : Wv} {d : WdC} {w : World} (h : RightOk t q d) (hf : FitsOk t) (hw : WRd w q d) : WOk w q d t.th.length where
  is := hw.is
  len := ⟨h.h1, by rw [h.nest.h2, h.h1], by rw [h.nest.h3, h.h1], by have := hf.th.len.2; unfold maxLen; omega⟩
  l4 := h.h4
  pos := by have := hf.th.len.1; omega
  few := by have := hf.th.len.2; omega
  fl := fun m hm => by have := h.fl m hm; have := bitsN_le t.fl; omega
  nest := by have := h.nest.nest.nest; rwa [h.h1] at this
theorem FitsOk.tw {t : TbC} (h : FitsOk t) : TW t t.th.length := ⟨rfl, by have := h.th.len.1; omega, h.he.tl⟩
end Go.Proofs.Ytjggklfegcejhaa
namespace Go.Proofs.Ytjggklfegcejhaa
open Go.RowKit Go.PlainAid
set_option linter.unusedVariables false
set_option linter.unusedSimpArgs false

theorem kid_ups {pa ch nx : List Int} {n : Nat} (h : NestW pa ch nx n) (hn : 1 ≤ n) {x c : Int} (hc : c ∈ kidsW ch nx n x) : upsW pa n n c = c :: upsW pa n n x := by
  have h1 := kids_is hc
  have h2 := h.up x c hc
  obtain ⟨m, rfl⟩ : ∃ m, n = m + 1 := ⟨n - 1, by omega⟩
  rw [ups_short pa _ m x (ups_len h hn x), upsW, if_pos h1, h2]
def partN (kids : Int → List Int) (hid sho : Int → Bool) (d : Nat) (c : Int) : List Int := if hid c = true then [] else c :: (if sho c = true then reachW kids hid sho d c else [])
theorem reach_partN (kids : Int → List Int) (hid sho : Int → Bool) (d : Nat) (x : Int) : reachW kids hid sho (d + 1) x = (kids x).flatMap (partN kids hid sho d) := rfl
mutual
theorem reach_up {pa ch nx : List Int} {n : Nat} (h : NestW pa ch nx n) (hn : 1 ≤ n) (hid sho : Int → Bool) : ∀ (d : Nat) (x y : Int), y ∈ reachW (kidsW ch nx n) hid sho d x → ∃ (s : List Int) (c : Int), upsW pa n n y = s ++ c :: upsW pa n n x
  | 0, x, y => fun hy => by cases hy
  | d + 1, x, y => fun hy => by
    rw [reach_partN] at hy
    obtain ⟨c, hc, hy⟩ := List.mem_flatMap.1 hy
    obtain ⟨s, e⟩ := part_upN h hn hid sho d x c y hc hy
    exact ⟨s, c, e⟩
theorem part_upN {pa ch nx : List Int} {n : Nat} (h : NestW pa ch nx n) (hn : 1 ≤ n) (hid sho : Int → Bool) : ∀ (d : Nat) (x c y : Int), c ∈ kidsW ch nx n x → y ∈ partN (kidsW ch nx n) hid sho d c → ∃ s : List Int, upsW pa n n y = s ++ c :: upsW pa n n x
  | d, x, c, y => fun hc hy => by
    unfold partN at hy
    split at hy
    · cases hy
    · rcases List.mem_cons.1 hy with rfl | hy
      · exact ⟨[], kid_ups h hn hc⟩
      · split at hy
        · obtain ⟨s, c', e⟩ := reach_up h hn hid sho d c y hy
          exact ⟨s ++ [c'], by rw [e, kid_ups h hn hc]; simp⟩
        · cases hy
end
theorem reach_nodup {pa ch nx : List Int} {n : Nat} (h : NestW pa ch nx n) (hn : 1 ≤ n) (hd : ∀ x, (kidsW ch nx n x).Nodup) (hid sho : Int → Bool) : ∀ (d : Nat) (x : Int), (reachW (kidsW ch nx n) hid sho d x).Nodup
  | 0, x => List.nodup_nil
  | d + 1, x => by
    rw [reach_partN]
    refine List.pairwise_flatMap.2 ⟨fun c hc => ?_, ?_⟩
    · unfold partN
      split
      · exact List.Pairwise.nil
      · refine List.nodup_cons.2 ⟨fun hm => ?_, ?_⟩
        · split at hm
          · obtain ⟨s, c', e⟩ := reach_up h hn hid sho d c c hm
            have := congrArg List.length e
            simp at this
            omega
          · cases hm
        · split
          · exact reach_nodup h hn hd hid sho d c
          · exact List.nodup_nil
    · refine List.Pairwise.imp_of_mem (fun {a b} ha hb hab y hy z hz e => ?_) (hd x)
      subst e
      obtain ⟨s1, e1⟩ := part_upN h hn hid sho d x a y ha hy
      obtain ⟨s2, e2⟩ := part_upN h hn hid sho d x b y hb hz
      rw [e1] at e2
      have := (List.append_inj' e2 (by simp)).2
      simp at this
      exact hab this
theorem reach_is {ch nx : List Int} {n : Nat} (hid sho : Int → Bool) : ∀ (d : Nat) (x y : Int), y ∈ reachW (kidsW ch nx n) hid sho d x → isW n y = true
  | 0, x, y => fun hy => by cases hy
  | d + 1, x, y => fun hy => by
    rw [reach_partN] at hy
    obtain ⟨c, hc, hy⟩ := List.mem_flatMap.1 hy
    unfold partN at hy
    split at hy
    · cases hy
    · rcases List.mem_cons.1 hy with rfl | hy
      · exact kids_is hc
      · split at hy
        · exact reach_is hid sho d c y hy
        · cases hy
theorem reach_len {pa ch nx : List Int} {n : Nat} (h : NestW pa ch nx n) (hn : 1 ≤ n) (hd : ∀ x, (kidsW ch nx n x).Nodup) (hid sho : Int → Bool) (d : Nat) (x : Int) : (reachW (kidsW ch nx n) hid sho d x).length ≤ n :=
  nodup_bd n _ (reach_nodup h hn hd hid sho d x) fun y hy => by have := isW_spec.1 (reach_is hid sho d x y hy); omega
end Go.Proofs.Ytjggklfegcejhaa
namespace Go.Proofs.Ytjggklfegcejhaa
open Go.RowKit Go.PlainAid
set_option linter.unusedVariables false
set_option linter.unusedSimpArgs false

theorem OwnInts.at3 {B : Nat} {w : World} {v : Value} {L : List Int} (h : OwnInts B w v L) (hn : 0 < L.length) : ∃ g c, v = .slice (some ⟨g, 0, none⟩) L.length c ∧ ∀ j u, (L.map (Value.int .i64))[j]? = some u → w.cell? ((⟨g, 0, none⟩ : Addr).add j) = some u := by
  obtain ⟨g, cap, rfl, hg, hlt⟩ := h.1.form hn
  refine ⟨g, cap, rfl, fun j u hj => ?_⟩
  have hjl : j < L.length := by
    have := (List.getElem?_eq_some_iff.1 hj).1
    simpa using this
  rw [show (⟨g, 0, none⟩ : Addr).add j = ⟨g, j, none⟩ by simp [Addr.add]; intro h; omega, h.1.cellAt j (by omega)]
  exact hj
theorem flat_take {f : Int → List Int} {L : List Int} {i : Nat} (h : i < L.length) : (L.take (i + 1)).flatMap f = (L.take i).flatMap f ++ f L[i] := by
  rw [List.take_succ_eq_append_getElem h, List.flatMap_append]; simp
theorem flat_le {f : Int → List Int} {L : List Int} (i : Nat) : ((L.take i).flatMap f).length ≤ (L.flatMap f).length := by
  have := congrArg (fun l => (List.flatMap f l).length) (List.take_append_drop i L)
  simp only [List.flatMap_append, List.length_append] at this
  omega
end Go.Proofs.Ytjggklfegcejhaa
