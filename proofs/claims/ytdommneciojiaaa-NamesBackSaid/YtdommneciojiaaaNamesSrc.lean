/- Contracts of the closures of rows, of names[T]: the names of some things. -/
import Derived.Test.YtdommneciojiaaaNamesOf
import Derived.Test.YtdommneciojiaaaKey2
import Derived.Test.YtdommneciojiaaaIsName
import Derived.OwnWalk
namespace Go.Proofs.Ytdommneciojiaaa
open Go.RowKit Go.PlainAid
set_option linter.unusedVariables false
set_option linter.unusedSimpArgs false

def strV (l : List UInt8) : Value := .string (mkB l)
theorem Try.infoStr : (Try.prog.info? 9).map (fun i => (i.zero, i.size, i.bytes)) = some (some (.string ByteArray.empty), 1, 16) := by kernel_rfl
/-- Texts that the call owns. -/
def OwS (w : World) (base : Nat) (v : Value) (L : List (List UInt8)) : Prop := w.ownsRow base 9 1 v L.length (L.map strV)
theorem OwS.nil (w : World) (base : Nat) : OwS w base (.slice none 0 0) [] := World.ownsRow_nil _ _ _ _
theorem OwS.snoc {w : World} {base : Nat} {v : Value} {L : List (List UInt8)} {x : List UInt8} (h : w.ownsRow base 9 1 v (L.length + 1) (L.map strV ++ [strV x])) : OwS w base v (L ++ [x]) := by
  unfold OwS; simpa using h
theorem OwS.sl {w : World} {base : Nat} {v : Value} {L : List (List UInt8)} (h : OwS w base v L) (hm : L.length ≤ maxLen) : SL w v (L.map strV) := SL.own h hm
theorem one_at {w : World} {v : Value} {T : TypeId} {n : Nat} (h : w.heap.size = n) : ∀ j u, [v][j]? = some u → (w.alloc (.cells #[v] T)).cell? ((⟨n, 0, none⟩ : Addr).add j) = some u := by
  subst h; exact cell_one_new _ _ _

/-- The nil slice. -/
abbrev nilV : Value := .slice none 0 0
/-- A pair's cells, and its code: it is read as its name. -/
def pairRow (n : List UInt8) (q : Int) : List Value := [.string (mkB n), .int .i64 q]
def Cd.pair : Cd (List UInt8) := ⟨2, fun _ cs n => (∃ q, cs = pairRow n q) ∧ n.length ≤ maxLen, fun h => by obtain ⟨⟨q, rfl⟩, _⟩ := h; rfl, fun h _ => h⟩
theorem pair_open {w : World} {v : Value} {l : List (List UInt8)} (h : Reads Cd.pair.seq w v l) (hn : 0 < l.length) :
    ∃ b off cap, v = .slice (some ⟨b, off, none⟩) l.length cap ∧ l.length ≤ cap ∧ b < w.heap.size ∧ ∀ i (hi : i < l.length), l[i].length ≤ maxLen ∧ ∃ q, ∀ j, j < 2 → w.cell? ⟨b, off + i * 2 + j, none⟩ = (pairRow l[i] q)[j]? := by
  obtain ⟨b, off, cap, h1, h2, h3, h4⟩ := h.open hn
  refine ⟨b, off, cap, h1, h2, h3, fun i hi => ?_⟩
  obtain ⟨row, r1, ⟨⟨q, rfl⟩, r2⟩, r3⟩ := h4 i hi
  exact ⟨r2, q, r3⟩
/-- A obj's cells, and its code: it is read as its name. -/
def objRow (n : List UInt8) (q : ByteArray) : List Value := [.string (mkB n), .string q, .string ⟨#[]⟩, .string ⟨#[]⟩, .bool false, nilV, nilV, nilV, nilV, nilV]
def Cd.obj : Cd (List UInt8) := ⟨10, fun _ cs n => (∃ q, cs = objRow n q) ∧ n.length ≤ maxLen, fun h => by obtain ⟨⟨q, rfl⟩, _⟩ := h; rfl, fun h _ => h⟩
theorem obj_open {w : World} {v : Value} {l : List (List UInt8)} (h : Reads Cd.obj.seq w v l) (hn : 0 < l.length) :
    ∃ b off cap, v = .slice (some ⟨b, off, none⟩) l.length cap ∧ l.length ≤ cap ∧ b < w.heap.size ∧ ∀ i (hi : i < l.length), l[i].length ≤ maxLen ∧ ∃ q, ∀ j, j < 10 → w.cell? ⟨b, off + i * 10 + j, none⟩ = (objRow l[i] q)[j]? := by
  obtain ⟨b, off, cap, h1, h2, h3, h4⟩ := h.open hn
  refine ⟨b, off, cap, h1, h2, h3, fun i hi => ?_⟩
  obtain ⟨row, r1, ⟨⟨q, rfl⟩, r2⟩, r3⟩ := h4 i hi
  exact ⟨r2, q, r3⟩
/-- A verb's cells, and its code: it is read as its name. -/
def verbRow (n : List UInt8) (q : Unit) : List Value := [.string (mkB n), .bool false, nilV]
def Cd.verb : Cd (List UInt8) := ⟨3, fun _ cs n => (∃ q, cs = verbRow n q) ∧ n.length ≤ maxLen, fun h => by obtain ⟨⟨q, rfl⟩, _⟩ := h; rfl, fun h _ => h⟩
theorem verb_open {w : World} {v : Value} {l : List (List UInt8)} (h : Reads Cd.verb.seq w v l) (hn : 0 < l.length) :
    ∃ b off cap, v = .slice (some ⟨b, off, none⟩) l.length cap ∧ l.length ≤ cap ∧ b < w.heap.size ∧ ∀ i (hi : i < l.length), l[i].length ≤ maxLen ∧ ∃ q, ∀ j, j < 3 → w.cell? ⟨b, off + i * 3 + j, none⟩ = (verbRow l[i] q)[j]? := by
  obtain ⟨b, off, cap, h1, h2, h3, h4⟩ := h.open hn
  refine ⟨b, off, cap, h1, h2, h3, fun i hi => ?_⟩
  obtain ⟨row, r1, ⟨⟨q, rfl⟩, r2⟩, r3⟩ := h4 i hi
  exact ⟨r2, q, r3⟩
/-- A func's cells, and its code: it is read as its name. -/
def funcRow (n : List UInt8) (q : Unit) : List Value := [.string (mkB n), nilV, nilV]
def Cd.func : Cd (List UInt8) := ⟨3, fun _ cs n => (∃ q, cs = funcRow n q) ∧ n.length ≤ maxLen, fun h => by obtain ⟨⟨q, rfl⟩, _⟩ := h; rfl, fun h _ => h⟩
theorem func_open {w : World} {v : Value} {l : List (List UInt8)} (h : Reads Cd.func.seq w v l) (hn : 0 < l.length) :
    ∃ b off cap, v = .slice (some ⟨b, off, none⟩) l.length cap ∧ l.length ≤ cap ∧ b < w.heap.size ∧ ∀ i (hi : i < l.length), l[i].length ≤ maxLen ∧ ∃ q, ∀ j, j < 3 → w.cell? ⟨b, off + i * 3 + j, none⟩ = (funcRow l[i] q)[j]? := by
  obtain ⟨b, off, cap, h1, h2, h3, h4⟩ := h.open hn
  refine ⟨b, off, cap, h1, h2, h3, fun i hi => ?_⟩
  obtain ⟨row, r1, ⟨⟨q, rfl⟩, r2⟩, r3⟩ := h4 i hi
  exact ⟨r2, q, r3⟩

/-! ### The closures -/
theorem cloPair (n : List UInt8) (q : Int) (w : World) : Calls Try.prog 40 #[.agg (pairRow n q).toArray] w fun e w' => e = .returned (.string (mkB n)) ∧ w' = w.alloc (.cells (pairRow n q).toArray 69) := by
  unfold pairRow
  go_enter Try.func40, Try.ntmps40
  go_wp2
  go_ret
  exact ⟨rfl, rfl⟩
theorem cloFunc (n : List UInt8) (q : Unit) (w : World) : Calls Try.prog 41 #[.agg (funcRow n q).toArray] w fun e w' => e = .returned (.string (mkB n)) ∧ w' = w.alloc (.cells (funcRow n q).toArray 75) := by
  unfold funcRow
  go_enter Try.func41, Try.ntmps41
  go_wp2
  go_ret
  exact ⟨rfl, rfl⟩
theorem cloObject (n : List UInt8) (q : ByteArray) (w : World) : Calls Try.prog 42 #[.agg (objRow n q).toArray] w fun e w' => e = .returned (.string (mkB n)) ∧ w' = w.alloc (.cells (objRow n q).toArray 58) := by
  unfold objRow
  go_enter Try.func42, Try.ntmps42
  go_wp2
  go_ret
  exact ⟨rfl, rfl⟩
theorem cloVerb (n : List UInt8) (q : Unit) (w : World) : Calls Try.prog 43 #[.agg (verbRow n q).toArray] w fun e w' => e = .returned (.string (mkB n)) ∧ w' = w.alloc (.cells (verbRow n q).toArray 72) := by
  unfold verbRow
  go_enter Try.func43, Try.ntmps43
  go_wp2
  go_ret
  exact ⟨rfl, rfl⟩

/-! ### The names of some things -/
set_option maxRecDepth 100000 in
set_option maxHeartbeats 4000000 in
theorem namPair (v : Value) (l : List (List UInt8)) (w : World) (hv : Reads Cd.pair.seq w v l) (hl : l.length ≤ 100000) :
    Calls Try.prog 44 #[v, .func (.func 40) #[] #[]] w fun e w' => ∃ r, e = .returned r ∧ OwS w' w.heap.size r l ∧ Below w.heap.size w w' := by
  have HV := Lib.hid hv
  obtain ⟨a0, c0, hv0, hc0, hm0⟩ := hv.len
  subst hv0
  clear hv
  obtain ⟨i0, hi, hz0, hz1, hz2⟩ := info_parts Try.infoStr
  go_enter Try.func44, Try.ntmps44
  go_wp2
  go_loopw [5, 10] (fun v i wr => ∃ (p : Nat), i = .int .i64 p ∧ p ≤ l.length ∧ Hid (Below w.heap.size w wr) ∧ Hid (OwS wr w.heap.size v (l.take p))) (fun _ i _ => l.length - (intOf i).toNat)
  case atStart => exact ⟨0, rfl, Nat.zero_le _, Lib.hid (Below.refl _ _), Lib.hid (OwS.nil _ _)⟩
  case round =>
    obtain ⟨p, rfl, hpl, hB, hO⟩ := hrel
    obtain ⟨va, vc, hv⟩ := ow_shape hO.out
    have htl : (l.take p).length = p := by simp; omega
    rw [htl] at hv
    subst hv
    by_cases hlt : p < l.length
    · obtain ⟨b, off, cap, hv, hcap, hblt, hcell⟩ := pair_open HV.out (by omega)
      have hac : a0 = some ⟨b, off, none⟩ := by simp at hv; exact hv.1
      subst hac
      obtain ⟨hrm, q, hrc⟩ := hcell p hlt
      have HT : Hid (l.take (p + 1) = l.take p ++ [l[p]]) := Lib.hid (List.take_succ_eq_append_getElem hlt)
      generalize l[p] = n at hrc hrm HT
      have HC := Lib.hid (fun w => cloPair n q w)
      unfold pairRow at hrc HC
      have e0 := (hB.out.cell (p := ⟨b, off + p * 2, none⟩) hblt).trans (hrc 0 (by decide))
      have e1 := (hB.out.cell (p := ⟨b, off + p * 2 + 1, none⟩) hblt).trans (hrc 1 (by decide))
      simp only [List.getElem?_cons_zero, List.getElem?_cons_succ] at e0 e1
      have HO2 : Hid (wr.ownsRow w.heap.size 9 1 (.slice va p vc) p ((l.take p).map strV)) := Lib.hid (by have := hO.out; unfold OwS at this; rwa [htl] at this)
      have hb1 : p + 1 ≤ maxLen ∧ (p + 1) * 16 ≤ 140737488355328 := by unfold maxLen; omega
      have hsz := hB.out.size
      clear hrc hcell hv htl
      go_wp2_with (first
        | (go_at_call 40; refine (HC.out _).mono ?_; rintro e w' ⟨rfl, rfl⟩)
        | (at_builtin; refine wpList_append_own _ rfl _ _ 22 rfl w.heap.size 9 i0 (.string ByteArray.empty) 1 16 Try.underlying22 hi hz0 hz1 hz2 rfl (by decide) (.slice va p vc) p ((l.take p).map strV) rfl (((HO2.out.alloc _).alloc _).alloc _) ⟨_, 0, none⟩ 1 1 [.string (mkB n)] rfl rfl (one_at (by simp)) (ow_one rfl) hb1.1 hb1.2 (ow_le (ow_le (ow_le hsz _) _) _) ?_; intro v5 w5 hown5 hgrow5 _))
      have hB5 := Lib.hid (bl_g (bl_a (bl_a (bl_a hB.out _) _) _) hgrow5 (ow_lo hO.out))
      have HO5 : Hid (OwS w5 w.heap.size v5 (l.take (p + 1))) := Lib.hid (by
        rw [HT.out]
        exact OwS.snoc (by have htl : (l.take p).length = p := by simp; omega
                           rw [htl]; exact hown5))
      clear hown5 hgrow5
      go_wp2
      go_roundw
      case rel => exact ⟨p + 1, by go_num, by omega, hB5, HO5⟩
      case measure => simp [intOf]; omega
    · have HE : Hid (l.take p = l) := Lib.hid (List.take_of_length_le (by omega))
      go_wp2
      go_ret
      exact ⟨_, rfl, by have := hO.out; rwa [HE.out] at this, hB.out⟩
set_option maxRecDepth 100000 in
set_option maxHeartbeats 4000000 in
theorem namFunc (v : Value) (l : List (List UInt8)) (w : World) (hv : Reads Cd.func.seq w v l) (hl : l.length ≤ 100000) :
    Calls Try.prog 47 #[v, .func (.func 41) #[] #[]] w fun e w' => ∃ r, e = .returned r ∧ OwS w' w.heap.size r l ∧ Below w.heap.size w w' := by
  have HV := Lib.hid hv
  obtain ⟨a0, c0, hv0, hc0, hm0⟩ := hv.len
  subst hv0
  clear hv
  obtain ⟨i0, hi, hz0, hz1, hz2⟩ := info_parts Try.infoStr
  go_enter Try.func47, Try.ntmps47
  go_wp2
  go_loopw [5, 10] (fun v i wr => ∃ (p : Nat), i = .int .i64 p ∧ p ≤ l.length ∧ Hid (Below w.heap.size w wr) ∧ Hid (OwS wr w.heap.size v (l.take p))) (fun _ i _ => l.length - (intOf i).toNat)
  case atStart => exact ⟨0, rfl, Nat.zero_le _, Lib.hid (Below.refl _ _), Lib.hid (OwS.nil _ _)⟩
  case round =>
    obtain ⟨p, rfl, hpl, hB, hO⟩ := hrel
    obtain ⟨va, vc, hv⟩ := ow_shape hO.out
    have htl : (l.take p).length = p := by simp; omega
    rw [htl] at hv
    subst hv
    by_cases hlt : p < l.length
    · obtain ⟨b, off, cap, hv, hcap, hblt, hcell⟩ := func_open HV.out (by omega)
      have hac : a0 = some ⟨b, off, none⟩ := by simp at hv; exact hv.1
      subst hac
      obtain ⟨hrm, q, hrc⟩ := hcell p hlt
      have HT : Hid (l.take (p + 1) = l.take p ++ [l[p]]) := Lib.hid (List.take_succ_eq_append_getElem hlt)
      generalize l[p] = n at hrc hrm HT
      have HC := Lib.hid (fun w => cloFunc n q w)
      unfold funcRow at hrc HC
      have e0 := (hB.out.cell (p := ⟨b, off + p * 3, none⟩) hblt).trans (hrc 0 (by decide))
      have e1 := (hB.out.cell (p := ⟨b, off + p * 3 + 1, none⟩) hblt).trans (hrc 1 (by decide))
      have e2 := (hB.out.cell (p := ⟨b, off + p * 3 + 2, none⟩) hblt).trans (hrc 2 (by decide))
      simp only [List.getElem?_cons_zero, List.getElem?_cons_succ] at e0 e1 e2
      have HO2 : Hid (wr.ownsRow w.heap.size 9 1 (.slice va p vc) p ((l.take p).map strV)) := Lib.hid (by have := hO.out; unfold OwS at this; rwa [htl] at this)
      have hb1 : p + 1 ≤ maxLen ∧ (p + 1) * 16 ≤ 140737488355328 := by unfold maxLen; omega
      have hsz := hB.out.size
      clear hrc hcell hv htl
      go_wp2_with (first
        | (go_at_call 41; refine (HC.out _).mono ?_; rintro e w' ⟨rfl, rfl⟩)
        | (at_builtin; refine wpList_append_own _ rfl _ _ 22 rfl w.heap.size 9 i0 (.string ByteArray.empty) 1 16 Try.underlying22 hi hz0 hz1 hz2 rfl (by decide) (.slice va p vc) p ((l.take p).map strV) rfl (((HO2.out.alloc _).alloc _).alloc _) ⟨_, 0, none⟩ 1 1 [.string (mkB n)] rfl rfl (one_at (by simp)) (ow_one rfl) hb1.1 hb1.2 (ow_le (ow_le (ow_le hsz _) _) _) ?_; intro v5 w5 hown5 hgrow5 _))
      have hB5 := Lib.hid (bl_g (bl_a (bl_a (bl_a hB.out _) _) _) hgrow5 (ow_lo hO.out))
      have HO5 : Hid (OwS w5 w.heap.size v5 (l.take (p + 1))) := Lib.hid (by
        rw [HT.out]
        exact OwS.snoc (by have htl : (l.take p).length = p := by simp; omega
                           rw [htl]; exact hown5))
      clear hown5 hgrow5
      go_wp2
      go_roundw
      case rel => exact ⟨p + 1, by go_num, by omega, hB5, HO5⟩
      case measure => simp [intOf]; omega
    · have HE : Hid (l.take p = l) := Lib.hid (List.take_of_length_le (by omega))
      go_wp2
      go_ret
      exact ⟨_, rfl, by have := hO.out; rwa [HE.out] at this, hB.out⟩
set_option maxRecDepth 100000 in
set_option maxHeartbeats 4000000 in
theorem namObject (v : Value) (l : List (List UInt8)) (w : World) (hv : Reads Cd.obj.seq w v l) (hl : l.length ≤ 100000) :
    Calls Try.prog 45 #[v, .func (.func 42) #[] #[]] w fun e w' => ∃ r, e = .returned r ∧ OwS w' w.heap.size r l ∧ Below w.heap.size w w' := by
  have HV := Lib.hid hv
  obtain ⟨a0, c0, hv0, hc0, hm0⟩ := hv.len
  subst hv0
  clear hv
  obtain ⟨i0, hi, hz0, hz1, hz2⟩ := info_parts Try.infoStr
  go_enter Try.func45, Try.ntmps45
  go_wp2
  go_loopw [5, 10] (fun v i wr => ∃ (p : Nat), i = .int .i64 p ∧ p ≤ l.length ∧ Hid (Below w.heap.size w wr) ∧ Hid (OwS wr w.heap.size v (l.take p))) (fun _ i _ => l.length - (intOf i).toNat)
  case atStart => exact ⟨0, rfl, Nat.zero_le _, Lib.hid (Below.refl _ _), Lib.hid (OwS.nil _ _)⟩
  case round =>
    obtain ⟨p, rfl, hpl, hB, hO⟩ := hrel
    obtain ⟨va, vc, hv⟩ := ow_shape hO.out
    have htl : (l.take p).length = p := by simp; omega
    rw [htl] at hv
    subst hv
    by_cases hlt : p < l.length
    · obtain ⟨b, off, cap, hv, hcap, hblt, hcell⟩ := obj_open HV.out (by omega)
      have hac : a0 = some ⟨b, off, none⟩ := by simp at hv; exact hv.1
      subst hac
      obtain ⟨hrm, q, hrc⟩ := hcell p hlt
      have HT : Hid (l.take (p + 1) = l.take p ++ [l[p]]) := Lib.hid (List.take_succ_eq_append_getElem hlt)
      generalize l[p] = n at hrc hrm HT
      have HC := Lib.hid (fun w => cloObject n q w)
      unfold objRow at hrc HC
      have e0 := (hB.out.cell (p := ⟨b, off + p * 10, none⟩) hblt).trans (hrc 0 (by decide))
      have e1 := (hB.out.cell (p := ⟨b, off + p * 10 + 1, none⟩) hblt).trans (hrc 1 (by decide))
      have e2 := (hB.out.cell (p := ⟨b, off + p * 10 + 2, none⟩) hblt).trans (hrc 2 (by decide))
      have e3 := (hB.out.cell (p := ⟨b, off + p * 10 + 3, none⟩) hblt).trans (hrc 3 (by decide))
      have e4 := (hB.out.cell (p := ⟨b, off + p * 10 + 4, none⟩) hblt).trans (hrc 4 (by decide))
      have e5 := (hB.out.cell (p := ⟨b, off + p * 10 + 5, none⟩) hblt).trans (hrc 5 (by decide))
      have e6 := (hB.out.cell (p := ⟨b, off + p * 10 + 6, none⟩) hblt).trans (hrc 6 (by decide))
      have e7 := (hB.out.cell (p := ⟨b, off + p * 10 + 7, none⟩) hblt).trans (hrc 7 (by decide))
      have e8 := (hB.out.cell (p := ⟨b, off + p * 10 + 8, none⟩) hblt).trans (hrc 8 (by decide))
      have e9 := (hB.out.cell (p := ⟨b, off + p * 10 + 9, none⟩) hblt).trans (hrc 9 (by decide))
      simp only [List.getElem?_cons_zero, List.getElem?_cons_succ] at e0 e1 e2 e3 e4 e5 e6 e7 e8 e9
      have HO2 : Hid (wr.ownsRow w.heap.size 9 1 (.slice va p vc) p ((l.take p).map strV)) := Lib.hid (by have := hO.out; unfold OwS at this; rwa [htl] at this)
      have hb1 : p + 1 ≤ maxLen ∧ (p + 1) * 16 ≤ 140737488355328 := by unfold maxLen; omega
      have hsz := hB.out.size
      clear hrc hcell hv htl
      go_wp2_with (first
        | (go_at_call 42; refine (HC.out _).mono ?_; rintro e w' ⟨rfl, rfl⟩)
        | (at_builtin; refine wpList_append_own _ rfl _ _ 22 rfl w.heap.size 9 i0 (.string ByteArray.empty) 1 16 Try.underlying22 hi hz0 hz1 hz2 rfl (by decide) (.slice va p vc) p ((l.take p).map strV) rfl (((HO2.out.alloc _).alloc _).alloc _) ⟨_, 0, none⟩ 1 1 [.string (mkB n)] rfl rfl (one_at (by simp)) (ow_one rfl) hb1.1 hb1.2 (ow_le (ow_le (ow_le hsz _) _) _) ?_; intro v5 w5 hown5 hgrow5 _))
      have hB5 := Lib.hid (bl_g (bl_a (bl_a (bl_a hB.out _) _) _) hgrow5 (ow_lo hO.out))
      have HO5 : Hid (OwS w5 w.heap.size v5 (l.take (p + 1))) := Lib.hid (by
        rw [HT.out]
        exact OwS.snoc (by have htl : (l.take p).length = p := by simp; omega
                           rw [htl]; exact hown5))
      clear hown5 hgrow5
      go_wp2
      go_roundw
      case rel => exact ⟨p + 1, by go_num, by omega, hB5, HO5⟩
      case measure => simp [intOf]; omega
    · have HE : Hid (l.take p = l) := Lib.hid (List.take_of_length_le (by omega))
      go_wp2
      go_ret
      exact ⟨_, rfl, by have := hO.out; rwa [HE.out] at this, hB.out⟩
set_option maxRecDepth 100000 in
set_option maxHeartbeats 4000000 in
theorem namVerb (v : Value) (l : List (List UInt8)) (w : World) (hv : Reads Cd.verb.seq w v l) (hl : l.length ≤ 100000) :
    Calls Try.prog 46 #[v, .func (.func 43) #[] #[]] w fun e w' => ∃ r, e = .returned r ∧ OwS w' w.heap.size r l ∧ Below w.heap.size w w' := by
  have HV := Lib.hid hv
  obtain ⟨a0, c0, hv0, hc0, hm0⟩ := hv.len
  subst hv0
  clear hv
  obtain ⟨i0, hi, hz0, hz1, hz2⟩ := info_parts Try.infoStr
  go_enter Try.func46, Try.ntmps46
  go_wp2
  go_loopw [5, 10] (fun v i wr => ∃ (p : Nat), i = .int .i64 p ∧ p ≤ l.length ∧ Hid (Below w.heap.size w wr) ∧ Hid (OwS wr w.heap.size v (l.take p))) (fun _ i _ => l.length - (intOf i).toNat)
  case atStart => exact ⟨0, rfl, Nat.zero_le _, Lib.hid (Below.refl _ _), Lib.hid (OwS.nil _ _)⟩
  case round =>
    obtain ⟨p, rfl, hpl, hB, hO⟩ := hrel
    obtain ⟨va, vc, hv⟩ := ow_shape hO.out
    have htl : (l.take p).length = p := by simp; omega
    rw [htl] at hv
    subst hv
    by_cases hlt : p < l.length
    · obtain ⟨b, off, cap, hv, hcap, hblt, hcell⟩ := verb_open HV.out (by omega)
      have hac : a0 = some ⟨b, off, none⟩ := by simp at hv; exact hv.1
      subst hac
      obtain ⟨hrm, q, hrc⟩ := hcell p hlt
      have HT : Hid (l.take (p + 1) = l.take p ++ [l[p]]) := Lib.hid (List.take_succ_eq_append_getElem hlt)
      generalize l[p] = n at hrc hrm HT
      have HC := Lib.hid (fun w => cloVerb n q w)
      unfold verbRow at hrc HC
      have e0 := (hB.out.cell (p := ⟨b, off + p * 3, none⟩) hblt).trans (hrc 0 (by decide))
      have e1 := (hB.out.cell (p := ⟨b, off + p * 3 + 1, none⟩) hblt).trans (hrc 1 (by decide))
      have e2 := (hB.out.cell (p := ⟨b, off + p * 3 + 2, none⟩) hblt).trans (hrc 2 (by decide))
      simp only [List.getElem?_cons_zero, List.getElem?_cons_succ] at e0 e1 e2
      have HO2 : Hid (wr.ownsRow w.heap.size 9 1 (.slice va p vc) p ((l.take p).map strV)) := Lib.hid (by have := hO.out; unfold OwS at this; rwa [htl] at this)
      have hb1 : p + 1 ≤ maxLen ∧ (p + 1) * 16 ≤ 140737488355328 := by unfold maxLen; omega
      have hsz := hB.out.size
      clear hrc hcell hv htl
      go_wp2_with (first
        | (go_at_call 43; refine (HC.out _).mono ?_; rintro e w' ⟨rfl, rfl⟩)
        | (at_builtin; refine wpList_append_own _ rfl _ _ 22 rfl w.heap.size 9 i0 (.string ByteArray.empty) 1 16 Try.underlying22 hi hz0 hz1 hz2 rfl (by decide) (.slice va p vc) p ((l.take p).map strV) rfl (((HO2.out.alloc _).alloc _).alloc _) ⟨_, 0, none⟩ 1 1 [.string (mkB n)] rfl rfl (one_at (by simp)) (ow_one rfl) hb1.1 hb1.2 (ow_le (ow_le (ow_le hsz _) _) _) ?_; intro v5 w5 hown5 hgrow5 _))
      have hB5 := Lib.hid (bl_g (bl_a (bl_a (bl_a hB.out _) _) _) hgrow5 (ow_lo hO.out))
      have HO5 : Hid (OwS w5 w.heap.size v5 (l.take (p + 1))) := Lib.hid (by
        rw [HT.out]
        exact OwS.snoc (by have htl : (l.take p).length = p := by simp; omega
                           rw [htl]; exact hown5))
      clear hown5 hgrow5
      go_wp2
      go_roundw
      case rel => exact ⟨p + 1, by go_num, by omega, hB5, HO5⟩
      case measure => simp [intOf]; omega
    · have HE : Hid (l.take p = l) := Lib.hid (List.take_of_length_le (by omega))
      go_wp2
      go_ret
      exact ⟨_, rfl, by have := hO.out; rwa [HE.out] at this, hB.out⟩
end Go.Proofs.Ytdommneciojiaaa
