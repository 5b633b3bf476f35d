/- Contract of slices.BinarySearchFunc at names, names.Find, names.Of, names.Text. -/
import Derived.Test.YtdommneciojiaaaNamesCmp
import Derived.Test.YtdommneciojiaaaCode
import Derived.Laws.ResultCell
namespace Go.Proofs.Ytdommneciojiaaa
open Go.RowKit Go.PlainAid
set_option linter.unusedVariables false
set_option linter.unusedSimpArgs false

/-- A name's code. -/
def Cd.nm : Cd NM := ⟨3, fun _ cs x => cs = nmCells x ∧ x.nm.length ≤ maxLen ∧ (Lit.int .i64 x.kd).wf = true ∧ (Lit.int .i64 x.nu).wf = true, fun h => by rw [h.1]; rfl, fun h _ => h⟩
/-- A slice of names, not empty: its cells. -/
theorem nm_open {w : World} {v : Value} {l : List NM} (h : Reads Cd.nm.seq w v l) (hn : 0 < l.length) :
    ∃ b off cap, v = .slice (some ⟨b, off, none⟩) l.length cap ∧ l.length ≤ cap ∧ b < w.heap.size ∧ ∀ i (hi : i < l.length),
      w.cell? ⟨b, off + i * 3, none⟩ = some (.string ⟨(l[i]).nm.toArray⟩) ∧ w.cell? ⟨b, off + i * 3 + 1, none⟩ = some (.int .i64 (l[i]).kd) ∧ w.cell? ⟨b, off + i * 3 + 2, none⟩ = some (.int .i64 (l[i]).nu) := by
  obtain ⟨b, off, cap, h1, h2, h3, h4⟩ := h.open hn
  refine ⟨b, off, cap, h1, h2, h3, fun i hi => ?_⟩
  obtain ⟨row, r1, r2, r3⟩ := h4 i hi
  have e := r2.1
  subst e
  exact ⟨r3 0 (by decide), r3 1 (by decide), r3 2 (by decide)⟩
/-- Where a name would stand among names that rise. -/
theorem pos_ex (l : List NM) (n : List UInt8) (h : RisesN l) : ∀ i j (hi : i < l.length) (hj : j < l.length), i < j → ltS (l[j]).nm n = true → ltS (l[i]).nm n = true := fun i j hi hj hij hl =>
  ltS_trans ((List.pairwise_iff_getElem.1 h) i j hi hj hij) hl

set_option maxRecDepth 100000 in
set_option maxHeartbeats 4000000 in
theorem searchN (v : Value) (l : List NM) (n : List UInt8) (w : World) (hv : Reads Cd.nm.seq w v l) (hr : RisesN l) (hl : l.length ≤ 100000) :
    Calls Try.prog 33 #[v, .string ⟨n.toArray⟩, .func (.func 34) #[] #[]] w fun e w' =>
      ∃ (i : Nat) (b : Bool), e = .returned (.tuple #[.int .i64 i, .bool b]) ∧ i ≤ l.length ∧ (∀ k (hk : k < l.length), k < i → ltS (l[k]).nm n = true) ∧ (∀ k (hk : k < l.length), i ≤ k → ltS (l[k]).nm n = false) ∧ b = decide (∃ h : i < l.length, (l[i]).nm = n) ∧ Below w.heap.size w w' := by
  have HV := Lib.hid hv
  have HR := Lib.hid (pos_ex l n hr)
  obtain ⟨a0, c0, hv0, hc0, hm0⟩ := hv.len
  subst hv0
  clear hv hr
  go_enter Try.func33, Try.ntmps33
  go_wp2
  go_loopw [9, 10] (fun i j wr => ∃ (p q : Nat), i = .int .i64 p ∧ j = .int .i64 q ∧ p ≤ q ∧ q ≤ l.length ∧ Hid (Below w.heap.size w wr) ∧ Hid (∀ k (hk : k < l.length), k < p → ltS (l[k]).nm n = true) ∧ Hid (∀ k (hk : k < l.length), q ≤ k → ltS (l[k]).nm n = false)) (fun i j _ => (intOf j - intOf i).toNat)
  case atStart => exact ⟨0, l.length, rfl, rfl, Nat.zero_le _, Nat.le_refl _, Lib.hid (Below.refl _ _), Lib.hid (fun k hk h => by omega), Lib.hid (fun k hk h => by omega)⟩
  case round =>
    obtain ⟨p, q, rfl, rfl, hpq, hql, hB, hLo, hHi⟩ := hrel
    by_cases hlt : p < q
    · obtain ⟨b, off, cap, hv, hcap, hblt, hcell⟩ := nm_open HV.out (by omega)
      have hac : a0 = some ⟨b, off, none⟩ := by simp at hv; exact hv.1
      subst hac
      have hmp : p ≤ (p + q) / 2 ∧ (p + q) / 2 < q := by omega
      have hml : (p + q) / 2 < l.length := by omega
      obtain ⟨f0, f1, f2⟩ := hcell ((p + q) / 2) hml
      have e0 := (hB.out.cell (p := ⟨b, off + (p + q) / 2 * 3, none⟩) hblt).trans f0
      have e1 := (hB.out.cell (p := ⟨b, off + (p + q) / 2 * 3 + 1, none⟩) hblt).trans f1
      have e2 := (hB.out.cell (p := ⟨b, off + (p + q) / 2 * 3 + 2, none⟩) hblt).trans f2
      have hlo2 : ltS (l[(p + q) / 2]).nm n = true → Hid (∀ k (hk : k < l.length), k < (p + q) / 2 + 1 → ltS (l[k]).nm n = true) := fun h => Lib.hid (fun k hk h2 => by
        by_cases e : k = (p + q) / 2
        · subst e; exact h
        · exact HR.out k _ hk hml (by omega) h)
      have hhi2 : ltS (l[(p + q) / 2]).nm n = false → Hid (∀ k (hk : k < l.length), (p + q) / 2 ≤ k → ltS (l[k]).nm n = false) := fun h => Lib.hid (fun k hk h2 => by
        by_cases e : k = (p + q) / 2
        · subst e; exact h
        · cases h3 : ltS (l[k]).nm n with
          | false => rfl
          | true => have := HR.out _ k hml hk (by omega) h3; rw [h] at this; cases this)
      generalize l[(p + q) / 2] = x at f0 f1 f2 e0 e1 e2 hlo2 hhi2
      have HC := Lib.hid (fun w => findCmp x n w)
      have hcl := cmpS_lt x.nm n
      obtain ⟨r, hr⟩ : ∃ r, cmpS x.nm n = r := ⟨_, rfl⟩
      rw [hr] at HC hcl
      clear hr f0 f1 f2 hcell hv
      cases hb : ltS x.nm n with
      | true =>
        have HL2 := hlo2 hb
        rw [hb] at hcl
        have hr0 : r < 0 := by simpa using hcl
        clear hlo2 hhi2 hcl hb
        go_wp2_with (go_at_call 34; refine (HC.out _).mono ?_; rintro e w' ⟨rfl, rfl⟩)
        go_roundw
        case rel => exact ⟨(p + q) / 2 + 1, q, by go_num, rfl, by omega, hql, Lib.hid (bl_a hB.out _), HL2, hHi⟩
        case measure => simp [intOf]; omega
      | false =>
        have HL2 := hhi2 hb
        rw [hb] at hcl
        have hr0 : ¬ r < 0 := by simpa using hcl
        clear hlo2 hhi2 hcl hb
        go_wp2_with (go_at_call 34; refine (HC.out _).mono ?_; rintro e w' ⟨rfl, rfl⟩)
        go_roundw
        case rel => exact ⟨p, (p + q) / 2, rfl, by go_num, by omega, by omega, Lib.hid (bl_a hB.out _), hLo, HL2⟩
        case measure => simp [intOf]; omega
    · have hpq' : p = q := by omega
      subst hpq'
      by_cases hpl : p < l.length
      · obtain ⟨b, off, cap, hv, hcap, hblt, hcell⟩ := nm_open HV.out (by omega)
        have hac : a0 = some ⟨b, off, none⟩ := by simp at hv; exact hv.1
        subst hac
        obtain ⟨f0, f1, f2⟩ := hcell p hpl
        have e0 := (hB.out.cell (p := ⟨b, off + p * 3, none⟩) hblt).trans f0
        have e1 := (hB.out.cell (p := ⟨b, off + p * 3 + 1, none⟩) hblt).trans f1
        have e2 := (hB.out.cell (p := ⟨b, off + p * 3 + 2, none⟩) hblt).trans f2
        have HE : Hid (decide (∃ h : p < l.length, (l[p]).nm = n) = decide ((l[p]).nm = n)) := Lib.hid (by simp [hpl])
        generalize l[p] = x at f0 f1 f2 e0 e1 e2 HE
        have HC := Lib.hid (fun w => findCmp x n w)
        have hcl := cmpS_eq x.nm n
        obtain ⟨r, hr⟩ : ∃ r, cmpS x.nm n = r := ⟨_, rfl⟩
        rw [hr] at HC hcl
        have hcl2 := Lib.hid hcl
        clear hr f0 f1 f2 hcell hv hcl
        go_wp2_with (go_at_call 34; refine (HC.out _).mono ?_; rintro e w' ⟨rfl, rfl⟩)
        go_ret2
        exact ⟨p, _, rfl, hql, hLo.out, hHi.out, by rw [HE.out, ← hcl2.out], bl_a hB.out _⟩
      · have HE : Hid (decide (∃ h : p < l.length, (l[p]).nm = n) = false) := Lib.hid (by simp [hpl])
        go_wp2
        go_ret2
        exact ⟨p, _, rfl, hql, hLo.out, hHi.out, by rw [HE.out], hB.out⟩

/-- Where a name stands. -/
theorem find_at (l : List NM) (n : List UInt8) (hr : RisesN l) (i : Nat) (h1 : ∀ k (hk : k < l.length), k < i → ltS (l[k]).nm n = true) (h2 : ∀ k (hk : k < l.length), i ≤ k → ltS (l[k]).nm n = false) :
    (∀ (h : i < l.length), (l[i]).nm = n → findN l n = some l[i]) ∧ ((¬ ∃ h : i < l.length, (l[i]).nm = n) → findN l n = none) := by
  unfold findN
  refine ⟨fun h e => ?_, fun h => ?_⟩
  · rw [List.find?_eq_some_iff_getElem]
    refine ⟨by simpa using e, i, h, rfl, fun j hj => ?_⟩
    have := h1 j (by omega) hj
    simp
    intro e2
    rw [e2, ltS_irrefl] at this; cases this
  · rw [List.find?_eq_none]
    intro x hx
    obtain ⟨k, hk, rfl⟩ := List.getElem_of_mem hx
    simp
    intro e
    by_cases hki : k < i
    · have := h1 k hk hki; rw [e, ltS_irrefl] at this; cases this
    · have hil : i < l.length := by omega
      apply h
      refine ⟨hil, ?_⟩
      by_cases he : k = i
      · subst he; exact e
      · have h3 := h2 i hil (Nat.le_refl _)
        have h4 := (List.pairwise_iff_getElem.1 hr) i k hil hk (by omega)
        rw [e] at h4
        rw [h3] at h4; cases h4
def zeroNM : NM := ⟨[], 0, 0⟩
def nmV (x : NM) : Value := .agg (nmCells x).toArray
set_option maxRecDepth 100000 in
set_option maxHeartbeats 4000000 in
theorem namesFind (v : Value) (l : List NM) (n : List UInt8) (w : World) (hv : Reads Cd.nm.seq w v l) (hr : RisesN l) (hl : l.length ≤ 100000) :
    Calls Try.prog 15 #[v, .string ⟨n.toArray⟩] w fun e w' => e = .returned (.tuple #[nmV ((findN l n).getD zeroNM), .bool (findN l n).isSome]) ∧ Below w.heap.size w w' := by
  have HV := Lib.hid hv
  have HS := Lib.hid (fun w h => searchN v l n w h hr hl)
  have HF := Lib.hid (find_at l n hr)
  obtain ⟨a0, c0, hv0, hc0, hm0⟩ := hv.len
  subst hv0
  clear hv hr
  go_enter Try.func15, Try.ntmps15
  go_wp2_with fail
  refine (HS.out _ (HV.out.below (bl_a (Below.refl _ _) _))).mono ?_
  rintro e w1 ⟨i, b, rfl, hi, h1, h2, hb, hB⟩
  obtain ⟨g1, g2⟩ := HF.out i h1 h2
  have HB := Lib.hid hB
  have HK := Lib.hid ((BK.new w [.string ⟨#[]⟩, .int .i64 0, .int .i64 0] 46).below hB)
  have k0 := HK.out.cell 0
  have k1 := HK.out.cell 1
  have k2 := HK.out.cell 2
  have q0 := HK.out.fr 0
  have q1 := HK.out.fr 1
  have q2 := HK.out.fr 2
  simp only [List.getElem?_cons_zero, List.getElem?_cons_succ] at k0 k1 k2
  have HB1 : Hid (Below w.heap.size w w1) := Lib.hid ((bl_a (Below.refl w.heap.size w) _).trans (HB.out.mono (by simp)))
  clear h1 h2 hB
  cases b with
  | true =>
    obtain ⟨hil, he⟩ : ∃ h : i < l.length, (l[i]).nm = n := by simpa using hb.symm
    have HE := Lib.hid (g1 hil he)
    obtain ⟨b, off, cap, hv, hcap, hblt, hcell⟩ := nm_open HV.out (by omega)
    have hac : a0 = some ⟨b, off, none⟩ := by simp at hv; exact hv.1
    subst hac
    obtain ⟨f0, f1, f2⟩ := hcell i hil
    have e0 := (HB1.out.cell (p := ⟨b, off + i * 3, none⟩) hblt).trans f0
    have e1 := (HB1.out.cell (p := ⟨b, off + i * 3 + 1, none⟩) hblt).trans f1
    have e2 := (HB1.out.cell (p := ⟨b, off + i * 3 + 2, none⟩) hblt).trans f2
    generalize l[i] = x at f0 f1 f2 e0 e1 e2 HE
    clear g1 g2 hb f0 f1 f2 hcell hv
    go_wp2
    refine bodyPost_ret (v := .tuple #[.agg #[.string ⟨x.nm.toArray⟩, .int .i64 x.kd, .int .i64 x.nu], .bool true]) ?_ rfl ⟨?_, ?_⟩
    · rw [results_cell_tmp rfl]; go_simp
    · rw [HE.out]; rfl
    · exact bl_s (bl_s (bl_s HB1.out _ _) _ _) _ _
  | false =>
    have HE := Lib.hid (g2 (by simpa using hb.symm))
    clear g1 g2 hb
    go_wp2
    refine bodyPost_ret (v := .tuple #[.agg #[.string ⟨#[]⟩, .int .i64 0, .int .i64 0], .bool false]) ?_ rfl ⟨?_, ?_⟩
    · rw [results_cell_tmp rfl]; go_simp
    · rw [HE.out]; rfl
    · exact bl_s (bl_s (bl_s HB1.out _ _) _ _) _ _
end Go.Proofs.Ytdommneciojiaaa
