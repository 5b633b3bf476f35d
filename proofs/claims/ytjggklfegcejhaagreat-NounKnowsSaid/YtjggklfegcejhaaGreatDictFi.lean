/- Texts, compared.; Contracts of slices.BinarySearchFunc at entries, dict.Find, dict.Bits. -/
import Derived.Test.YtjggklfegcejhaaGreatDictKey
import Derived.Test.YtjggklfegcejhaaGreatFitsA
import Derived.BigQuiet
import Derived.Deep.QuietTactic
namespace Go.Proofs.YtjggklfegcejhaaGreat
open Go.RowKit Go.Shelf
set_option linter.unusedVariables false
set_option linter.unusedSimpArgs false

/-! ### Texts, compared -/
theorem compare_cmpS : ∀ (a b : List UInt8), Lib.compareBytes a b = cmpS a b
  | [], [] => by decide
  | [], y :: t => by
    have : ltS [] (y :: t) = true := (ltS_iff _ _).2 (List.nil_lt_cons ..)
    unfold cmpS; rw [this]; rfl
  | x :: s, [] => by
    have : ltS [] (x :: s) = true := (ltS_iff _ _).2 (List.nil_lt_cons ..)
    unfold cmpS; rw [this, ltS_asymm this]; rfl
  | x :: s, y :: t => by
    have ih := compare_cmpS s t
    have h1 : ltS (x :: s) (y :: t) = true ↔ x < y ∨ x = y ∧ s < t := (ltS_iff _ _).trans List.cons_lt_cons_iff
    have h2 : ltS (y :: t) (x :: s) = true ↔ y < x ∨ y = x ∧ t < s := (ltS_iff _ _).trans List.cons_lt_cons_iff
    rw [Lib.compareBytes]
    by_cases hxy : x < y
    · rw [if_pos hxy]; unfold cmpS; rw [h1.2 (.inl hxy)]; rfl
    · rw [if_neg hxy]
      by_cases hyx : y < x
      · have h3 := h2.2 (.inl hyx)
        rw [if_pos hyx]; unfold cmpS; rw [h3, ltS_asymm h3]; rfl
      · rw [if_neg hyx, ih]
        have hxe : x = y := by
          have a1 := UInt8.not_lt.1 hxy
          have a2 := UInt8.not_lt.1 hyx
          exact UInt8.le_antisymm a2 a1
        subst hxe
        have h1' : ltS (x :: s) (x :: t) = ltS s t := by
          rw [Bool.eq_iff_iff, h1, ltS_iff]
          exact ⟨fun h => h.elim (fun h => absurd h hxy) (fun h => h.2), fun h => .inr ⟨rfl, h⟩⟩
        have h2' : ltS (x :: t) (x :: s) = ltS t s := by
          rw [Bool.eq_iff_iff, h2, ltS_iff]
          exact ⟨fun h => h.elim (fun h => absurd h hxy) (fun h => h.2), fun h => .inr ⟨rfl, h⟩⟩
        unfold cmpS; rw [h1', h2']
end Go.Proofs.YtjggklfegcejhaaGreat
namespace Go.Proofs.YtjggklfegcejhaaGreat
open Go.RowKit Go.PlainAid
set_option linter.unusedVariables false
set_option linter.unusedSimpArgs false

def enCells (x : EnC) : List Value := [.string ⟨x.wd.toArray⟩, .int .i64 x.bt]
/-- An entry's code. -/
def Cd.en : Cd EnC := ⟨2, fun _ cs x => cs = enCells x ∧ x.wd.length ≤ maxLen ∧ (Lit.int .i64 x.bt).wf = true, fun h => by rw [h.1]; rfl, fun h _ => h⟩
/-- A slice of entries, not empty: its cells. -/
theorem en_open {w : World} {v : Value} {l : List EnC} (h : Reads Cd.en.seq w v l) (hn : 0 < l.length) :
    ∃ b off cap, v = .slice (some ⟨b, off, none⟩) l.length cap ∧ l.length ≤ cap ∧ b < w.heap.size ∧ ∀ i (hi : i < l.length),
      w.cell? ⟨b, off + i * 2, none⟩ = some (.string ⟨(l[i]).wd.toArray⟩) ∧ w.cell? ⟨b, off + i * 2 + 1, none⟩ = some (.int .i64 (l[i]).bt) := by
  obtain ⟨b, off, cap, h1, h2, h3, h4⟩ := h.open hn
  refine ⟨b, off, cap, h1, h2, h3, fun i hi => ?_⟩
  obtain ⟨row, r1, r2, r3⟩ := h4 i hi
  have e := r2.1
  subst e
  exact ⟨r3 0 (by decide), r3 1 (by decide)⟩
theorem cmpE (a b : List UInt8) (w : World) : Calls Tryz.prog 44 #[.string ⟨a.toArray⟩, .string ⟨b.toArray⟩] w fun e w' => e = .returned (.int .i64 (cmpS a b)) ∧ w = w' :=
  (Tryz.strings_Compare ⟨a.toArray⟩ ⟨b.toArray⟩ w).mono fun e w' h => ⟨by rw [h.1, compare_cmpS], h.2.symm⟩
/-- The closure by which Find looks. -/
theorem findCmpE (x : EnC) (s : List UInt8) (w : World) : Calls Tryz.prog 47 #[.agg (enCells x).toArray, .string ⟨s.toArray⟩] w fun e w' => e = .returned (.int .i64 (cmpS x.wd s)) ∧ w' = w.alloc (.cells (enCells x).toArray 73) := by
  have HC := Lib.hid (fun w => cmpE x.wd s w)
  unfold enCells
  go_enter Tryz.func47, Tryz.ntmps47
  go_wp2_with (go_at_call 44; refine (HC.out _).mono ?_; rintro e w' ⟨rfl, rfl⟩)
  go_ret
  exact ⟨rfl, rfl⟩
set_option maxRecDepth 100000 in
set_option maxHeartbeats 4000000 in
theorem searchE (v : Value) (l : List EnC) (n : List UInt8) (w : World) (hv : Reads Cd.en.seq w v l) (hr : RisesE l) (hl : l.length ≤ 100000) :
    Calls Tryz.prog 45 #[v, .string ⟨n.toArray⟩, .func (.func 47) #[] #[]] w fun e w' =>
      ∃ (i : Nat) (b : Bool), e = .returned (.tuple #[.int .i64 i, .bool b]) ∧ i ≤ l.length ∧ (∀ k (hk : k < l.length), k < i → ltS (l[k]).wd n = true) ∧ (∀ k (hk : k < l.length), i ≤ k → ltS (l[k]).wd n = false) ∧ b = decide (∃ h : i < l.length, (l[i]).wd = n) ∧ Below w.heap.size w w' := by
  have HV := Lib.hid hv
  have HR := Lib.hid (posE_ex l n hr)
  obtain ⟨a0, c0, hv0, hc0, hm0⟩ := hv.len
  subst hv0
  clear hv hr
  go_enter Tryz.func45, Tryz.ntmps45
  go_wp2
  go_loopw [9, 10] (fun i j wr => ∃ (p q : Nat), i = .int .i64 p ∧ j = .int .i64 q ∧ p ≤ q ∧ q ≤ l.length ∧ Hid (Below w.heap.size w wr) ∧ Hid (∀ k (hk : k < l.length), k < p → ltS (l[k]).wd n = true) ∧ Hid (∀ k (hk : k < l.length), q ≤ k → ltS (l[k]).wd n = false)) (fun i j _ => (intOf j - intOf i).toNat)
  case atStart => exact ⟨0, l.length, rfl, rfl, Nat.zero_le _, Nat.le_refl _, Lib.hid (Below.refl _ _), Lib.hid (fun k hk h => by omega), Lib.hid (fun k hk h => by omega)⟩
  case round =>
    obtain ⟨p, q, rfl, rfl, hpq, hql, hB, hLo, hHi⟩ := hrel
    by_cases hlt : p < q
    · obtain ⟨b, off, cap, hv, hcap, hblt, hcell⟩ := en_open HV.out (by omega)
      have hac : a0 = some ⟨b, off, none⟩ := by simp at hv; exact hv.1
      subst hac
      have hmp : p ≤ (p + q) / 2 ∧ (p + q) / 2 < q := by omega
      have hml : (p + q) / 2 < l.length := by omega
      obtain ⟨f0, f1⟩ := hcell ((p + q) / 2) hml
      have e0 := (hB.out.cell (p := ⟨b, off + (p + q) / 2 * 2, none⟩) hblt).trans f0
      have e1 := (hB.out.cell (p := ⟨b, off + (p + q) / 2 * 2 + 1, none⟩) hblt).trans f1
      have hlo2 : ltS (l[(p + q) / 2]).wd n = true → Hid (∀ k (hk : k < l.length), k < (p + q) / 2 + 1 → ltS (l[k]).wd n = true) := fun h => Lib.hid (fun k hk h2 => by
        by_cases e : k = (p + q) / 2
        · subst e; exact h
        · exact HR.out k _ hk hml (by omega) h)
      have hhi2 : ltS (l[(p + q) / 2]).wd n = false → Hid (∀ k (hk : k < l.length), (p + q) / 2 ≤ k → ltS (l[k]).wd n = false) := fun h => Lib.hid (fun k hk h2 => by
        by_cases e : k = (p + q) / 2
        · subst e; exact h
        · cases h3 : ltS (l[k]).wd n with
          | false => rfl
          | true => have := HR.out _ k hml hk (by omega) h3; rw [h] at this; cases this)
      generalize l[(p + q) / 2] = x at f0 f1 e0 e1 hlo2 hhi2
      have HC := Lib.hid (fun w => findCmpE x n w)
      have hcl := cmpS_lt x.wd n
      obtain ⟨r, hr⟩ : ∃ r, cmpS x.wd n = r := ⟨_, rfl⟩
      rw [hr] at HC hcl
      clear hr f0 f1 hcell hv
      cases hb : ltS x.wd n with
      | true =>
        have HL2 := hlo2 hb
        rw [hb] at hcl
        have hr0 : r < 0 := by simpa using hcl
        clear hlo2 hhi2 hcl hb
        go_wp2_with (go_at_call 47; refine (HC.out _).mono ?_; rintro e w' ⟨rfl, rfl⟩)
        go_roundw
        case rel => exact ⟨(p + q) / 2 + 1, q, by go_num, rfl, by omega, hql, Lib.hid (bl_a hB.out _), HL2, hHi⟩
        case measure => simp [intOf]; omega
      | false =>
        have HL2 := hhi2 hb
        rw [hb] at hcl
        have hr0 : ¬ r < 0 := by simpa using hcl
        clear hlo2 hhi2 hcl hb
        go_wp2_with (go_at_call 47; refine (HC.out _).mono ?_; rintro e w' ⟨rfl, rfl⟩)
        go_roundw
        case rel => exact ⟨p, (p + q) / 2, rfl, by go_num, by omega, by omega, Lib.hid (bl_a hB.out _), hLo, HL2⟩
        case measure => simp [intOf]; omega
    · have hpq' : p = q := by omega
      subst hpq'
      by_cases hpl : p < l.length
      · obtain ⟨b, off, cap, hv, hcap, hblt, hcell⟩ := en_open HV.out (by omega)
        have hac : a0 = some ⟨b, off, none⟩ := by simp at hv; exact hv.1
        subst hac
        obtain ⟨f0, f1⟩ := hcell p hpl
        have e0 := (hB.out.cell (p := ⟨b, off + p * 2, none⟩) hblt).trans f0
        have e1 := (hB.out.cell (p := ⟨b, off + p * 2 + 1, none⟩) hblt).trans f1
        have HE : Hid (decide (∃ h : p < l.length, (l[p]).wd = n) = decide ((l[p]).wd = n)) := Lib.hid (by simp [hpl])
        generalize l[p] = x at f0 f1 e0 e1 HE
        have HC := Lib.hid (fun w => findCmpE x n w)
        have hcl := cmpS_eq x.wd n
        obtain ⟨r, hr⟩ : ∃ r, cmpS x.wd n = r := ⟨_, rfl⟩
        rw [hr] at HC hcl
        have hcl2 := Lib.hid hcl
        clear hr f0 f1 hcell hv hcl
        go_wp2_with (go_at_call 47; refine (HC.out _).mono ?_; rintro e w' ⟨rfl, rfl⟩)
        go_ret2
        exact ⟨p, _, rfl, hql, hLo.out, hHi.out, by rw [HE.out, ← hcl2.out], bl_a hB.out _⟩
      · have HE : Hid (decide (∃ h : p < l.length, (l[p]).wd = n) = false) := Lib.hid (by simp [hpl])
        go_wp2
        go_ret2
        exact ⟨p, _, rfl, hql, hLo.out, hHi.out, by rw [HE.out], hB.out⟩
set_option maxRecDepth 100000 in
set_option maxHeartbeats 4000000 in
theorem dictFind (v : Value) (l : List EnC) (s : ByteArray) (w : World) (hv : Reads Cd.en.seq w v l) (hr : RisesE l) (hl : l.length ≤ 100000) (hs : s.size ≤ maxLen) :
    Calls Tryz.prog 18 #[v, .string s] w fun e w' => e = .returned (.int .i64 (findE l (keyW s.data.toList))) ∧ Below w.heap.size w w' := by
  have HV := Lib.hid hv
  have HS := Lib.hid (fun w h => searchE v l (keyW s.data.toList) w h hr hl)
  have HF := Lib.hid (fun i => @findE_pos l (keyW s.data.toList) hr i)
  have HK := Lib.hid (fun w => dictPlain s w hs)
  unfold keyS mkY at HK
  obtain ⟨a0, c0, hv0, hc0, hm0⟩ := hv.len
  subst hv0
  clear hv hr
  go_enter Tryz.func18, Tryz.ntmps18
  go_wp2_with fail
  refine (HK.out _).mono ?_
  rintro e w1 ⟨rfl, hb1⟩
  have HB1 := Lib.hid hb1
  clear hb1
  go_wp2_with fail
  refine (HS.out _ (HV.out.below HB1.out)).mono ?_
  rintro e w2 ⟨i, b, rfl, hi, h1, h2, hb, hB⟩
  obtain ⟨g1, g2⟩ := HF.out i h1 h2
  have HB := Lib.hid (bl_then HB1.out hB)
  clear h1 h2 hB
  cases b with
  | true =>
    obtain ⟨hil, he⟩ : ∃ h : i < l.length, (l[i]).wd = keyW s.data.toList := by simpa using hb.symm
    have HE := Lib.hid (g1 hil he)
    clear g1 g2 hb he
    go_wp2
    go_ret
    exact ⟨ret_i HE.out.symm, HB.out⟩
  | false =>
    have HE := Lib.hid (g2 (by simpa using hb.symm))
    clear g1 g2 hb
    go_wp2
    go_ret
    exact ⟨ret_i HE.out.symm, HB.out⟩
set_option maxRecDepth 100000 in
set_option maxHeartbeats 4000000 in
theorem dictBits (v : Value) (l : List EnC) (s : ByteArray) (w : World) (hv : Reads Cd.en.seq w v l) (hr : RisesE l) (hl : l.length ≤ 100000) (hs : s.size ≤ maxLen) :
    Calls Tryz.prog 17 #[v, .string s] w fun e w' => e = .returned (.int .i64 (bitsE l (keyW s.data.toList))) ∧ Below w.heap.size w w' := by
  have HV := Lib.hid hv
  have HS := Lib.hid (fun w h => dictFind v l s w h hr hl hs)
  obtain ⟨a0, c0, hv0, hc0, hm0⟩ := hv.len
  subst hv0
  clear hv hr
  rcases findE_cases l (keyW s.data.toList) with ⟨i, hi, h1, h2⟩ | ⟨h1, h2⟩
  · have HE := Lib.hid (bitsE_at hi h1)
    rw [h1] at HS
    obtain ⟨b, off, cap, hv, hcap, hblt, hcell⟩ := en_open HV.out (by omega)
    have hac : a0 = some ⟨b, off, none⟩ := by simp at hv; exact hv.1
    subst hac
    obtain ⟨f0, f1⟩ := hcell i hi
    clear h1 h2 hcell hv
    generalize l[i] = x at f0 f1 HE
    go_enter Tryz.func17, Tryz.ntmps17
    go_wp2_with (go_at_call 18; refine (HS.out _ HV.out).mono ?_; rintro e w1 ⟨rfl, hb⟩; have e0 := (hb.cell (p := ⟨b, off + i * 2, none⟩) hblt).trans f0; have e1 := (hb.cell (p := ⟨b, off + i * 2 + 1, none⟩) hblt).trans f1; have HB := Lib.hid hb; clear hb)
    go_ret
    exact ⟨ret_i HE.out.symm, HB.out⟩
  · have HE := Lib.hid (bitsE_none h2)
    rw [h1] at HS
    clear h1 h2
    go_enter Tryz.func17, Tryz.ntmps17
    go_wp2_with (go_at_call 18; refine (HS.out _ HV.out).mono ?_; rintro e w1 ⟨rfl, hb⟩; have HB := Lib.hid hb; clear hb)
    go_ret
    exact ⟨ret_i HE.out.symm, HB.out⟩
end Go.Proofs.YtjggklfegcejhaaGreat
