/- Contracts of clewref19's functions over tables, one-sided: numbers of texts, routines, things. -/
import Derived.Test.YtjggklfegcejhaaGreatFitsA
namespace Go.Proofs.YtjggklfegcejhaaGreat
open Go.RowKit Go.PlainAid
set_option linter.unusedVariables false
set_option linter.unusedSimpArgs false

/-- The world behind a boxed table. -/
abbrev tabW (w : World) (x : TAd) (t : TbC) : World := w.alloc (.cells (tabC x t).toArray 28)
theorem bl_tab (w : World) (x : TAd) (t : TbC) : Below w.heap.size w (tabW w x t) := bl_a (Below.refl _ _) _
theorem len_sub {n : Nat} (h : n ≤ maxLen) : IntKind.i64.wrap ((n : Int) - 1) = (n : Int) - 1 := IntWalk.i64_in _ (by unfold maxLen at h; omega)
/-- Things: where they lie. -/
theorem th_open {w : World} {v : Value} {l : List ThC} (h : Reads Cd.th.sq w v l) (hn : 0 < l.length) :
    ∃ b off cap, v = .slice (some ⟨b, off, none⟩) l.length cap ∧ l.length ≤ cap ∧ b < w.heap.size ∧ ∀ i (hi : i < l.length), ∃ p wd ad wy, ThIs w p wd ad wy l[i] ∧ ∀ j, j < 9 → w.cell? ⟨b, off + i * 9 + j, none⟩ = (thRow l[i] p wd ad wy)[j]? := by
  obtain ⟨b, off, cap, h1, h2, h3, h4⟩ := h.q.open hn
  refine ⟨b, off, cap, h1, h2, h3, fun i hi => ?_⟩
  obtain ⟨row, r1, ⟨p, wd, ad, wy, r2, r4⟩, r3⟩ := h4 i hi
  subst r2
  exact ⟨p, wd, ad, wy, r4, r3⟩
/-- A number of a text, or -1 if that may be. -/
def TxOk (t : TbC) (n : Int) (nb : Bool) : Prop := 0 ≤ n ∧ n < t.tx.length ∨ nb = true ∧ n = -1
/-- A routine's number, without params, or -1 if that may be. -/
def RtOk (t : TbC) (n : Int) (nb : Bool) : Prop := nb = true ∧ n = -1 ∨ ∃ k : Nat, n = k ∧ t.pa[k]? = some 0
def ThOk (t : TbC) (n : Int) : Prop := 1 ≤ n ∧ n < t.th.length
set_option maxRecDepth 100000 in
set_option maxHeartbeats 1000000 in
theorem refText (x : TAd) (t : TbC) (n : Int) (nb : Bool) (w : World) (hl : t.tx.length ≤ maxLen) :
    Calls Tryz.prog 79 #[tabV x t, .int .i64 n, .bool nb] w (IffW (TxOk t n nb) w) := by
  unfold TxOk
  have hs := len_sub hl
  have HB := Lib.hid (bl_tab w x t)
  unfold tabV tabC
  unfold tabW tabC at HB
  go_enter Tryz.func79, Tryz.ntmps79
  go_wp2_with (go_at_call 56; refine (refFrom _ _ _ _).mono ?_; rintro e w' ⟨b1, rfl, hb1, rfl⟩; have HB1 := Lib.hid hb1; clear hb1)
  all_goals
    go_ret
    refine ⟨_, rfl, ?_, HB.out⟩
    have h1 := HB1.out
    clear HB HB1 hs
    revert h1
    cases b1 <;> cases nb <;> first | contradiction | (simp; done) | (simp; omega)
set_option maxRecDepth 100000 in
set_option maxHeartbeats 1000000 in
theorem refThing (x : TAd) (t : TbC) (n : Int) (w : World) (hl : t.th.length ≤ maxLen) :
    Calls Tryz.prog 83 #[tabV x t, .int .i64 n] w (IffW (ThOk t n) w) := by
  have hs := len_sub hl
  have HB := Lib.hid (bl_tab w x t)
  unfold tabV tabC
  unfold tabW tabC at HB
  go_enter Tryz.func83, Tryz.ntmps83
  go_wp2_with (go_at_call 56; refine (refFrom _ _ _ _).mono ?_; rintro e w' ⟨b1, rfl, hb1, rfl⟩; have HB1 := Lib.hid hb1; clear hb1)
  go_ret
  exact ⟨_, rfl, by rw [HB1.out]; unfold ThOk; omega, HB.out⟩
set_option maxRecDepth 100000 in
set_option maxHeartbeats 1000000 in
theorem refRoutine (x : TAd) (t : TbC) (n : Int) (nb : Bool) (w : World) (ht : TabIs w x t) :
    Calls Tryz.prog 88 #[tabV x t, .int .i64 n, .bool nb] w (IffW (RtOk t n nb) w) := by
  have hm := reads_few ht.pa
  have hs := len_sub hm
  have HT := Lib.hid ht.pa
  clear ht
  by_cases hin : 0 ≤ n ∧ n < t.pa.length
  · have HB := Lib.hid (bl_tab w x t)
    obtain ⟨k, rfl⟩ : ∃ k : Nat, n = k := ⟨n.toNat, by omega⟩
    have hk : k < t.pa.length := by omega
    obtain ⟨b, off, cap, hv, hcap, hblt, hcell⟩ := int_open HT.out (by omega)
    have hac : x.a13 = some ⟨b, off, none⟩ := by simp at hv; exact hv.1
    have e0 := (bl_tab w x t).cell (p := ⟨b, off + k, none⟩) hblt |>.trans (hcell k hk)
    have HR : Hid (RtOk t (k : Int) nb ↔ t.pa[k] = 0) := Lib.hid (by
      unfold RtOk
      constructor
      · rintro (⟨_, h⟩ | ⟨j, hj, h⟩)
        · omega
        · obtain rfl : k = j := by omega
          rw [List.getElem?_eq_getElem hk] at h; exact Option.some.inj h
      · exact fun h => .inr ⟨k, rfl, by rw [List.getElem?_eq_getElem hk, h]⟩)
    generalize t.pa[k] = q at e0 HR
    unfold tabV tabC
    unfold tabW tabC at HB e0
    rw [hac]
    rw [hac] at HB e0
    have h0 : (0 : Int) ≤ (k : Int) := by omega
    have h1 : (k : Int) < (t.pa.length : Int) := by omega
    have hne : ((k : Int) == -1) = false := by first | (simp; done) | (simp; omega)
    clear hcell hv HT hac
    go_enter Tryz.func88, Tryz.ntmps88
    go_wp2_with (go_at_call 56; refine (refFrom _ _ _ _).mono ?_; rintro e w' ⟨b1, rfl, hb1, rfl⟩; obtain rfl : b1 = true := hb1.2 ⟨h0, by omega⟩; clear hb1)
    all_goals
      go_ret
      refine ⟨_, rfl, ?_, HB.out⟩
      rw [HR.out]
      simp_all
  · have HB := Lib.hid (bl_tab w x t)
    have HR : Hid (RtOk t n nb ↔ nb = true ∧ n = -1) := Lib.hid (by
      unfold RtOk
      constructor
      · rintro (h | ⟨j, hj, h⟩)
        · exact h
        · have := (List.getElem?_eq_some_iff.1 h).1
          omega
      · exact .inl)
    unfold tabV tabC
    unfold tabW tabC at HB
    clear HT
    go_enter Tryz.func88, Tryz.ntmps88
    go_wp2_with (go_at_call 56; refine (refFrom _ _ _ _).mono ?_; rintro e w' ⟨b1, rfl, hb1, rfl⟩; obtain rfl : b1 = false := by { cases b1 with | false => rfl | true => have := hb1.1 rfl; omega }; clear hb1)
    all_goals
      go_ret
      refine ⟨_, rfl, ?_, HB.out⟩
      rw [HR.out]
      clear HB HR hs hin hm
      simp_all
end Go.Proofs.YtjggklfegcejhaaGreat
