/- Contracts of noun.key, among, has; of clewref36.plain, has. -/
import Derived.Test.YtjggklfegcejhaaGreatDictKey
import Derived.Test.YtjggklfegcejhaaGreatNounPlain
import Derived.Test.YtjggklfegcejhaaGreatFitsA
import Derived.Test.YtjggklfegcejhaaGreatNest
namespace Go.Proofs.YtjggklfegcejhaaGreat
open Go.RowKit Go.PlainAid
set_option linter.unusedVariables false
set_option linter.unusedSimpArgs false

/-- Words that a slice's address holds. -/
def Wds (w : World) (a : Option Addr) (l : List TxC) : Prop := (∀ s ∈ l, s.length ≤ maxLen) ∧ (0 < l.length → ∃ b o, a = some ⟨b, o, none⟩ ∧ b < w.heap.size ∧ ∀ i (h : i < l.length), w.cell? ⟨b, o + i, none⟩ = some (.string ⟨l[i].toArray⟩))
theorem Wds.below {w w' : World} {a : Option Addr} {l : List TxC} (h : Wds w a l) (hb : Below w.heap.size w w') : Wds w' a l :=
  ⟨h.1, fun hn => by
    obtain ⟨b, o, e, h1, h2⟩ := h.2 hn
    exact ⟨b, o, e, Nat.lt_of_lt_of_le h1 hb.size, fun i hi => (hb.cell (p := ⟨b, o + i, none⟩) h1).trans (h2 i hi)⟩⟩
theorem reads_wds {w : World} {v : Value} {l : List TxC} (h : Reads Cd.ss w v l) : ∃ a c, v = .slice a l.length c ∧ l.length ≤ c ∧ l.length ≤ maxLen ∧ Wds w a l := by
  obtain ⟨a, c, hv, hc, hm⟩ := h.q.len
  refine ⟨a, c, hv, hc, hm, ?_, fun hn => ?_⟩
  · intro s hs
    obtain ⟨i, hi, rfl⟩ := List.getElem_of_mem hs
    obtain ⟨b, off, cap, h1, h2, h3, h4⟩ := str_open h (by omega)
    exact (h4 i hi).1
  · obtain ⟨b, off, cap, h1, h2, h3, h4⟩ := str_open h hn
    rw [hv] at h1
    simp only [Value.slice.injEq] at h1
    exact ⟨b, off, h1.1, h3, fun i hi => (h4 i hi).2⟩
theorem keyS_mk (s : TxC) : keyS ⟨s.toArray⟩ = ⟨(keyW s).toArray⟩ := by unfold keyS mkY; simp
theorem key_le (s : TxC) : (keyW s).length ≤ 9 := by unfold keyW; simp; omega
theorem nounKey (s : TxC) (w : World) (hs : s.length ≤ maxLen) : Calls Tryz.prog 28 #[.string ⟨s.toArray⟩] w fun e w' => e = .returned (.string ⟨(keyW s).toArray⟩) ∧ Below w.heap.size w w' := by
  have hs' : (⟨s.toArray⟩ : ByteArray).size ≤ maxLen := by show s.toArray.size ≤ _; simpa using hs
  have HL := Lib.hid (fun w => letLower ⟨s.toArray⟩ w hs')
  have HS := Lib.hid (fun w => letShort (lowS ⟨s.toArray⟩) w (by rw [lowS_size]; exact hs'))
  rw [keyS_low, keyS_mk] at HS
  clear hs hs'
  generalize lowS ⟨s.toArray⟩ = l at *
  generalize keyW s = k at *
  go_enter Tryz.func28, Tryz.ntmps28
  go_wp2_with fail
  refine (HL.out _).mono ?_
  rintro e w1 ⟨rfl, hb⟩
  have HB := Lib.hid hb
  clear hb
  go_wp2_with fail
  refine (HS.out _).mono ?_
  rintro e w2 ⟨rfl, rfl⟩
  go_wp2_with fail
  go_ret
  exact ⟨rfl, HB.out⟩
theorem refPlain36 (s : TxC) (w : World) (hs : s.length ≤ maxLen) : Calls Tryz.prog 24 #[.string ⟨s.toArray⟩] w fun e w' => e = .returned (.string ⟨(keyW s).toArray⟩) ∧ Below w.heap.size w w' := by
  have hs' : (⟨s.toArray⟩ : ByteArray).size ≤ maxLen := by show s.toArray.size ≤ _; simpa using hs
  have HL := Lib.hid (fun w => refLower ⟨s.toArray⟩ w hs')
  have HS := Lib.hid (fun w => refShort (lowS ⟨s.toArray⟩) w (by rw [lowS_size]; exact hs'))
  rw [keyS_low, keyS_mk] at HS
  clear hs hs'
  generalize lowS ⟨s.toArray⟩ = l at *
  generalize keyW s = k at *
  go_enter Tryz.func24, Tryz.ntmps24
  go_wp2_with fail
  refine (HL.out _).mono ?_
  rintro e w1 ⟨rfl, hb⟩
  have HB := Lib.hid hb
  clear hb
  go_wp2_with fail
  refine (HS.out _).mono ?_
  rintro e w2 ⟨rfl, rfl⟩
  go_wp2_with fail
  go_ret
  exact ⟨rfl, HB.out⟩
theorem amongC (k : TxC) (a : Option Addr) (l : List TxC) (c : Nat) (w : World) (h : Wds w a l) (hn : l.length ≤ maxLen) :
    Calls Tryz.prog 27 #[.string ⟨k.toArray⟩, .slice a l.length c] w fun e w' => e = .returned (.bool (l.contains k)) ∧ w = w' := by
  have HW := Lib.hid h
  obtain ⟨m, hm⟩ : ∃ m, l.length = m := ⟨_, rfl⟩
  obtain ⟨r, hr⟩ : ∃ r, l.contains k = r := ⟨_, rfl⟩
  have HR := Lib.hid hr
  have HM := Lib.hid hm
  rw [hm] at hn ⊢
  unfold maxLen at hn
  rw [hr]
  clear h hm hr
  go_enter Tryz.func27, Tryz.ntmps27
  go_wp2
  go_loop [9] (fun iv => ∃ i : Nat, iv = .int .i64 i ∧ i ≤ m ∧ Hid (∀ j (h : j < l.length), j < i → l[j] ≠ k)) (fun iv => m - (intOf iv).toNat)
  case atStart => exact ⟨0, rfl, Nat.zero_le _, Lib.hid (fun j _ h => by omega)⟩
  case round =>
    obtain ⟨i, rfl, hi, HI⟩ := hrel
    by_cases hlt : i < m
    · have hil : i < l.length := by rw [HM.out]; exact hlt
      obtain ⟨b, o, rfl, hb, hcs⟩ := HW.out.2 (by omega)
      have hci := hcs i hil
      have HMEM := Lib.hid (List.getElem_mem hil)
      obtain ⟨x, hx⟩ : ∃ x, l[i] = x := ⟨_, rfl⟩
      rw [hx] at hci HMEM
      have HX := Lib.hid hx
      clear hcs hx
      by_cases hxk : x = k
      · have e1 : (x == k) = true := by simp [hxk]
        have HT : Hid (r = true) := Lib.hid (by rw [← HR.out, List.contains_iff_mem, ← hxk]; exact HMEM.out)
        clear hxk
        go_wp2
        go_ret
        exact ⟨by rw [HT.out]; rfl, rfl⟩
      · have e1 : (x == k) = false := by simp [hxk]
        have HI2 : Hid (∀ j (h : j < l.length), j < i + 1 → l[j] ≠ k) := Lib.hid (fun j hj hji => by
          by_cases e : j = i
          · subst e; rw [HX.out]; exact hxk
          · exact HI.out j hj (by omega))
        clear hxk
        go_wp2
        go_round
        case rel => exact ⟨i + 1, by go_num, by omega, HI2⟩
        case measure => simp [intOf]; omega
    · have HF : Hid (r = false) := Lib.hid (by
        rw [← HR.out, ← Bool.not_eq_true, List.contains_iff_mem]
        intro hmem
        obtain ⟨j, hj, e⟩ := List.getElem_of_mem hmem
        exact HI.out j hj (by rw [HM.out] at hj; omega) e)
      go_wp2
      go_ret
      exact ⟨by rw [HF.out]; rfl, rfl⟩
theorem refHas36 (s : TxC) (a : Option Addr) (l : List TxC) (c : Nat) (w : World) (h : Wds w a l) (hn : l.length ≤ maxLen) (hs : s.length ≤ maxLen) :
    Calls Tryz.prog 23 #[.slice a l.length c, .string ⟨s.toArray⟩] w fun e w' => e = .returned (.bool ((l.map keyW).contains (keyW s))) ∧ Below w.heap.size w w' := by
  have HW := Lib.hid h
  obtain ⟨m, hm⟩ : ∃ m, l.length = m := ⟨_, rfl⟩
  obtain ⟨r, hr⟩ : ∃ r, (l.map keyW).contains (keyW s) = r := ⟨_, rfl⟩
  have HR := Lib.hid hr
  have HM := Lib.hid hm
  have HP := Lib.hid (fun s w hs => refPlain36 s w hs)
  have HS := Lib.hid (fun w => refPlain36 s w hs)
  rw [hm] at hn ⊢
  unfold maxLen at hn
  rw [hr]
  clear h hm hr hs
  go_enter Tryz.func23, Tryz.ntmps23
  go_wp2
  go_loopw [5] (fun iv wr => ∃ i : Nat, iv = .int .i64 i ∧ i ≤ m ∧ Hid (∀ j (h : j < l.length), j < i → keyW l[j] ≠ keyW s) ∧ Hid (Below w.heap.size w wr)) (fun iv _ => m - (intOf iv).toNat)
  case atStart => exact ⟨0, rfl, Nat.zero_le _, Lib.hid (fun j _ h => by omega), Lib.hid (Below.refl _ _)⟩
  case round =>
    obtain ⟨i, rfl, hi, HI, HB⟩ := hrel
    by_cases hlt : i < m
    · have hil : i < l.length := by rw [HM.out]; exact hlt
      obtain ⟨b, o, rfl, hb, hcs⟩ := (HW.out.below HB.out).2 (by omega)
      have hci := hcs i hil
      have HMEM := Lib.hid (List.getElem_mem hil)
      obtain ⟨x, hx⟩ : ∃ x, l[i] = x := ⟨_, rfl⟩
      rw [hx] at hci HMEM
      have HX := Lib.hid hx
      have HPx := Lib.hid (fun w => HP.out x w (HW.out.1 x HMEM.out))
      clear hcs hx
      go_wp2_with fail
      refine (HPx.out _).mono ?_
      rintro e w1 ⟨rfl, hb1⟩
      have HB1 := Lib.hid (bl_then HB.out hb1)
      clear hb1 hci
      go_wp2_with fail
      refine (HS.out _).mono ?_
      rintro e w2 ⟨rfl, hb2⟩
      have HB2 := Lib.hid (bl_then HB1.out hb2)
      clear hb2
      by_cases hxk : keyW x = keyW s
      · have e1 : (keyW x == keyW s) = true := by simp [hxk]
        have HT : Hid (r = true) := Lib.hid (by rw [← HR.out, List.contains_iff_mem, ← hxk]; exact List.mem_map.2 ⟨x, HMEM.out, rfl⟩)
        clear hxk
        go_wp2
        go_ret
        exact ⟨by rw [HT.out]; rfl, HB2.out⟩
      · have e1 : (keyW x == keyW s) = false := by simp [hxk]
        have HI2 : Hid (∀ j (h : j < l.length), j < i + 1 → keyW l[j] ≠ keyW s) := Lib.hid (fun j hj hji => by
          by_cases e : j = i
          · subst e; rw [HX.out]; exact hxk
          · exact HI.out j hj (by omega))
        clear hxk
        go_wp2
        go_roundw
        case rel => exact ⟨i + 1, by go_num, by omega, HI2, HB2⟩
        case measure => simp [intOf]; omega
    · have HF : Hid (r = false) := Lib.hid (by
        rw [← HR.out, ← Bool.not_eq_true, List.contains_iff_mem]
        intro hmem
        obtain ⟨y, hy, e⟩ := List.mem_map.1 hmem
        obtain ⟨j, hj, rfl⟩ := List.getElem_of_mem hy
        exact HI.out j hj (by rw [HM.out] at hj; omega) e)
      go_wp2
      go_ret
      exact ⟨by rw [HF.out]; rfl, HB.out⟩
/-- A thing as a value. -/
def thV (y : ThC) (p wd ad wy : Value) : Value := .agg (thRow y p wd ad wy).toArray
theorem nounHas (y : ThC) (p wd ad wy : Value) (k : TxC) (w : World) (h : ThIs w p wd ad wy y) :
    Calls Tryz.prog 61 #[thV y p wd ad wy, .string ⟨k.toArray⟩] w fun e w' => e = .returned (.bool (hasT y k)) ∧ Below w.heap.size w w' := by
  obtain ⟨a1, c1, e1, _, hn, hw1⟩ := reads_wds h.wd
  obtain ⟨a2, c2, e2, _, hn2, hw2⟩ := reads_wds h.ad
  subst e1 e2
  have HA := Lib.hid (fun w' (hb : Below w.heap.size w w') => amongC k a1 y.wd c1 w' (hw1.below hb) hn)
  have HB := Lib.hid (fun w' (hb : Below w.heap.size w w') => amongC k a2 y.ad c2 w' (hw2.below hb) hn2)
  have HBK := Lib.hid (BK.new w (thRow y p (.slice a1 y.wd.length c1) (.slice a2 y.ad.length c2) wy) 64)
  have HBL := Lib.hid (bl_oneA w (.cells (thRow y p (.slice a1 y.wd.length c1) (.slice a2 y.ad.length c2) wy).toArray 64))
  unfold hasT
  generalize y.wd.contains k = r1 at *
  generalize y.ad.contains k = r2 at *
  clear h hw1 hw2 hn hn2
  obtain ⟨W0, hW0⟩ : ∃ W0, w.alloc (.cells (thRow y p (.slice a1 y.wd.length c1) (.slice a2 y.ad.length c2) wy).toArray 64) = W0 := ⟨_, rfl⟩
  rw [hW0] at HBK HBL
  have k6 := HBK.out.cell 6
  have k7 := HBK.out.cell 7
  simp only [thRow, List.getElem?_cons_zero, List.getElem?_cons_succ] at k6 k7
  unfold thV at *
  go_enter Tryz.func61, Tryz.ntmps61
  unfold thRow at hW0 ⊢
  go_wp2_with fail
  clear hW0
  refine (HA.out _ HBL.out).mono ?_
  rintro e w1 ⟨rfl, rfl⟩
  cases r1 with
  | true =>
    go_wp2_with fail
    go_ret
    exact ⟨rfl, HBL.out⟩
  | false =>
    go_wp2_with fail
    refine (HB.out _ HBL.out).mono ?_
    rintro e w2 ⟨rfl, rfl⟩
    go_wp2_with fail
    go_ret
    exact ⟨by simp, HBL.out⟩
end Go.Proofs.YtjggklfegcejhaaGreat
