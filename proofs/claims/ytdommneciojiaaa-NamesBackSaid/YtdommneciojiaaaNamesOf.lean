/- Contracts of the reference's Find, of Of and Text on both sides, of Rises. -/
import Derived.Test.YtdommneciojiaaaNamesFind
namespace Go.Proofs.Ytdommneciojiaaa
open Go.RowKit Go.PlainAid
set_option linter.unusedVariables false
set_option linter.unusedSimpArgs false

theorem find_step (l : List NM) (n : List UInt8) (p : Nat) (hp : p < l.length) : findN (l.drop p) n = if l[p].nm = n then some l[p] else findN (l.drop (p + 1)) n := by
  unfold findN
  rw [List.drop_eq_getElem_cons hp, List.find?_cons]
  by_cases h : l[p].nm = n
  · simp [h]
  · simp [h]
theorem drop_end {α : Type} (l : List α) (p : Nat) (hp : ¬ p < l.length) : l.drop p = [] := List.drop_eq_nil_of_le (by omega)
theorem mk_ne {a b : List UInt8} (h : a ≠ b) : (⟨a.toArray⟩ : ByteArray) ≠ ⟨b.toArray⟩ := fun e => h (by have := congrArg (fun x => x.data.toList) e; simpa using this)
theorem str_eq (a b : List UInt8) : ((⟨a.toArray⟩ : ByteArray).data == (⟨b.toArray⟩ : ByteArray).data) = decide (a = b) := by
  rw [Bool.eq_iff_iff]; simp

set_option maxRecDepth 100000 in
set_option maxHeartbeats 4000000 in
theorem refFind (v : Value) (l : List NM) (n : List UInt8) (w : World) (hv : Reads Cd.nm.seq w v l) (hl : l.length ≤ 100000) :
    Calls Try.prog 17 #[v, .string ⟨n.toArray⟩] w fun e w' => e = .returned (.tuple #[nmV ((findN l n).getD zeroNM), .bool (findN l n).isSome]) ∧ Below w.heap.size w w' := by
  have HV := Lib.hid hv
  obtain ⟨a0, c0, hv0, hc0, hm0⟩ := hv.len
  subst hv0
  clear hv
  go_enter Try.func17, Try.ntmps17
  go_wp2
  go_loopw [6] (fun i wr => ∃ (p : Nat), i = .int .i64 p ∧ p ≤ l.length ∧ Hid (Below w.heap.size w wr) ∧ Hid (BK wr w.heap.size [.string ⟨#[]⟩, .int .i64 0, .int .i64 0] 46) ∧ Hid (findN (l.drop p) n = findN l n)) (fun i _ => l.length - (intOf i).toNat)
  case atStart => exact ⟨0, rfl, Nat.zero_le _, Lib.hid (bl_a (Below.refl _ _) _), Lib.hid (BK.new w _ _), Lib.hid rfl⟩
  case round =>
    obtain ⟨p, rfl, hpl, hB, HK, hF⟩ := hrel
    have k0 := HK.out.cell 0
    have k1 := HK.out.cell 1
    have k2 := HK.out.cell 2
    have q0 := HK.out.fr 0
    have q1 := HK.out.fr 1
    have q2 := HK.out.fr 2
    simp only [List.getElem?_cons_zero, List.getElem?_cons_succ] at k0 k1 k2
    by_cases hlt : p < l.length
    · have HST := Lib.hid (find_step l n p hlt)
      obtain ⟨b, off, cap, hv, hcap, hblt, hcell⟩ := nm_open HV.out (by omega)
      have hac : a0 = some ⟨b, off, none⟩ := by simp at hv; exact hv.1
      subst hac
      obtain ⟨f0, f1, f2⟩ := hcell p hlt
      have e0 := (hB.out.cell (p := ⟨b, off + p * 3, none⟩) hblt).trans f0
      have e1 := (hB.out.cell (p := ⟨b, off + p * 3 + 1, none⟩) hblt).trans f1
      have e2 := (hB.out.cell (p := ⟨b, off + p * 3 + 2, none⟩) hblt).trans f2
      generalize l[p] = x at f0 f1 f2 e0 e1 e2 HST
      clear f0 f1 f2 hcell hv
      by_cases hx : x.nm = n
      · have HE : Hid (findN l n = some x) := Lib.hid (by rw [← hF.out, HST.out, if_pos hx])
        have hse : (x.nm == n) = true := by simpa using hx
        clear hx HST
        go_wp2
        refine bodyPost_ret (v := .tuple #[.agg #[.string ⟨x.nm.toArray⟩, .int .i64 x.kd, .int .i64 x.nu], .bool true]) ?_ rfl ⟨?_, ?_⟩
        · rw [results_cell_tmp rfl]; go_simp
        · rw [HE.out]; rfl
        · exact bl_s (bl_s (bl_s hB.out _ _) _ _) _ _
      · have HN : Hid (findN (l.drop (p + 1)) n = findN l n) := Lib.hid (by rw [← hF.out, HST.out, if_neg hx])
        have hse : (x.nm == n) = false := by simpa using hx
        clear hx HST
        go_wp2
        go_roundw
        case rel => exact ⟨p + 1, by go_num, by omega, hB, HK, HN⟩
        case measure => simp [intOf]; omega
    · have HE : Hid (findN l n = none) := Lib.hid (by rw [← hF.out, drop_end l p hlt]; rfl)
      go_wp2
      refine bodyPost_ret (v := .tuple #[.agg #[.string ⟨#[]⟩, .int .i64 0, .int .i64 0], .bool false]) ?_ rfl ⟨?_, ?_⟩
      · rw [results_cell_tmp rfl]; go_simp
      · rw [HE.out]; rfl
      · exact bl_s (bl_s (bl_s hB.out _ _) _ _) _ _
theorem nmV_eq (x : NM) : nmV x = .agg #[.string ⟨x.nm.toArray⟩, .int .i64 x.kd, .int .i64 x.nu] := rfl
theorem nmV_zero : nmV zeroNM = .agg #[.string ⟨#[]⟩, .int .i64 0, .int .i64 0] := rfl

/-- A name's number, and what is wrong: 11 where there is no such name, 12 where it is of another kind. -/
def ofN (l : List NM) (k : Int) (n : List UInt8) : Int × Int := match findN l n with
  | none => (0, 11)
  | some x => if x.kd = k then (x.nu, 0) else (0, 12)
theorem find_nm {l : List NM} {n : List UInt8} {x : NM} (h : findN l n = some x) : x.nm = n := by
  unfold findN at h; simpa using List.find?_some h
set_option maxRecDepth 100000 in
set_option maxHeartbeats 4000000 in
theorem namesOf (v : Value) (l : List NM) (k : Int) (n : List UInt8) (w : World) (hv : Reads Cd.nm.seq w v l) (hr : RisesN l) (hl : l.length ≤ 100000) :
    Calls Try.prog 18 #[v, .int .i64 k, .string ⟨n.toArray⟩] w fun e w' => e = .returned (.tuple #[.int .i64 (ofN l k n).1, .int .i64 (ofN l k n).2]) ∧ Below w.heap.size w w' := by
  have HF := Lib.hid (namesFind v l n w hv hr hl)
  clear hv hr
  go_enter Try.func18, Try.ntmps18
  go_wp2_with fail
  refine HF.out.mono ?_
  rintro e w1 ⟨rfl, hB⟩
  have HB := Lib.hid hB
  clear hB
  cases hf : findN l n with
  | none =>
    have HE : Hid (ofN l k n = (0, 11)) := Lib.hid (by unfold ofN; rw [hf])
    clear hf HF
    rw [show nmV ((none : Option NM).getD zeroNM) = nmV zeroNM from rfl, nmV_zero, show (none : Option NM).isSome = false from rfl]
    go_wp2
    go_ret2
    exact ⟨by rw [HE.out]; rfl, bl_a HB.out _⟩
  | some x =>
    have hx := find_nm hf
    subst hx
    by_cases hk : x.kd = k
    · have HE : Hid (ofN l k x.nm = (x.nu, 0)) := Lib.hid (by unfold ofN; rw [hf]; simp [hk])
      subst hk
      clear hf HF
      rw [show nmV ((some x).getD zeroNM) = nmV x from rfl, nmV_eq, show (some x).isSome = true from rfl]
      go_wp2
      go_ret2
      exact ⟨by rw [HE.out]; rfl, bl_a HB.out _⟩
    · have HE : Hid (ofN l k x.nm = (0, 12)) := Lib.hid (by unfold ofN; rw [hf]; simp [hk])
      clear hf HF
      rw [show nmV ((some x).getD zeroNM) = nmV x from rfl, nmV_eq, show (some x).isSome = true from rfl]
      go_wp2
      go_ret2
      exact ⟨by rw [HE.out]; rfl, bl_a HB.out _⟩
set_option maxRecDepth 100000 in
set_option maxHeartbeats 4000000 in
theorem refOf (v : Value) (l : List NM) (k : Int) (n : List UInt8) (w : World) (hv : Reads Cd.nm.seq w v l) (hl : l.length ≤ 100000) :
    Calls Try.prog 19 #[v, .int .i64 k, .string ⟨n.toArray⟩] w fun e w' => e = .returned (.tuple #[.int .i64 (ofN l k n).1, .int .i64 (ofN l k n).2]) ∧ Below w.heap.size w w' := by
  have HF := Lib.hid (refFind v l n w hv hl)
  clear hv
  go_enter Try.func19, Try.ntmps19
  go_wp2_with fail
  refine HF.out.mono ?_
  rintro e w1 ⟨rfl, hB⟩
  have HB := Lib.hid hB
  clear hB
  cases hf : findN l n with
  | none =>
    have HE : Hid (ofN l k n = (0, 11)) := Lib.hid (by unfold ofN; rw [hf])
    clear hf HF
    rw [show nmV ((none : Option NM).getD zeroNM) = nmV zeroNM from rfl, nmV_zero, show (none : Option NM).isSome = false from rfl]
    go_wp2
    go_ret2
    exact ⟨by rw [HE.out]; rfl, bl_a HB.out _⟩
  | some x =>
    by_cases hk : x.kd = k
    · have HE : Hid (ofN l k n = (x.nu, 0)) := Lib.hid (by unfold ofN; rw [hf]; simp [hk])
      subst hk
      clear hf HF
      rw [show nmV ((some x).getD zeroNM) = nmV x from rfl, nmV_eq, show (some x).isSome = true from rfl]
      go_wp2
      go_ret2
      exact ⟨by rw [HE.out]; rfl, bl_a HB.out _⟩
    · have HE : Hid (ofN l k n = (0, 12)) := Lib.hid (by unfold ofN; rw [hf]; simp [hk])
      clear hf HF
      rw [show nmV ((some x).getD zeroNM) = nmV x from rfl, nmV_eq, show (some x).isSome = true from rfl]
      go_wp2
      go_ret2
      exact ⟨by rw [HE.out]; rfl, bl_a HB.out _⟩

/-- The name of this kind and number. -/
def textN (l : List NM) (k n : Int) : List UInt8 := ((l.find? fun x => decide (x.kd = k ∧ x.nu = n)).map (·.nm)).getD []
theorem text_step (l : List NM) (k n : Int) (p : Nat) (hp : p < l.length) : textN (l.drop p) k n = if l[p].kd = k ∧ l[p].nu = n then l[p].nm else textN (l.drop (p + 1)) k n := by
  unfold textN
  rw [List.drop_eq_getElem_cons hp, List.find?_cons]
  by_cases h : l[p].kd = k ∧ l[p].nu = n
  · simp [h]
  · rw [if_neg h, decide_eq_false h]
set_option maxRecDepth 100000 in
set_option maxHeartbeats 4000000 in
theorem namesText (v : Value) (l : List NM) (k n : Int) (w : World) (hv : Reads Cd.nm.seq w v l) (hl : l.length ≤ 100000) :
    Calls Try.prog 20 #[v, .int .i64 k, .int .i64 n] w fun e w' => e = .returned (.string ⟨(textN l k n).toArray⟩) ∧ Below w.heap.size w w' := by
  have HV := Lib.hid hv
  obtain ⟨a0, c0, hv0, hc0, hm0⟩ := hv.len
  subst hv0
  clear hv
  go_enter Try.func20, Try.ntmps20
  go_wp2
  go_loopw [11] (fun i wr => ∃ (p : Nat), i = .int .i64 p ∧ p ≤ l.length ∧ Hid (Below w.heap.size w wr) ∧ Hid (textN (l.drop p) k n = textN l k n)) (fun i _ => l.length - (intOf i).toNat)
  case atStart => exact ⟨0, rfl, Nat.zero_le _, Lib.hid (Below.refl _ _), Lib.hid rfl⟩
  case round =>
    obtain ⟨p, rfl, hpl, hB, hF⟩ := hrel
    by_cases hlt : p < l.length
    · have HST := Lib.hid (text_step l k n p hlt)
      obtain ⟨b, off, cap, hv, hcap, hblt, hcell⟩ := nm_open HV.out (by omega)
      have hac : a0 = some ⟨b, off, none⟩ := by simp at hv; exact hv.1
      subst hac
      obtain ⟨f0, f1, f2⟩ := hcell p hlt
      have e0 := (hB.out.cell (p := ⟨b, off + p * 3, none⟩) hblt).trans f0
      have e1 := (hB.out.cell (p := ⟨b, off + p * 3 + 1, none⟩) hblt).trans f1
      have e2 := (hB.out.cell (p := ⟨b, off + p * 3 + 2, none⟩) hblt).trans f2
      generalize l[p] = x at f0 f1 f2 e0 e1 e2 HST
      clear f0 f1 f2 hcell hv
      by_cases hk : x.kd = k
      · by_cases hn : x.nu = n
        · have HE : Hid (textN l k n = x.nm) := Lib.hid (by rw [← hF.out, HST.out, if_pos ⟨hk, hn⟩])
          clear HST
          go_wp2
          go_ret
          exact ⟨by rw [HE.out]; rfl, bl_a hB.out _⟩
        · have HN : Hid (textN (l.drop (p + 1)) k n = textN l k n) := Lib.hid (by rw [← hF.out, HST.out, if_neg (fun h => hn h.2)])
          clear HST
          go_wp2
          go_roundw
          case rel => exact ⟨p + 1, by go_num, by omega, Lib.hid (bl_a hB.out _), HN⟩
          case measure => simp [intOf]; omega
      · have HN : Hid (textN (l.drop (p + 1)) k n = textN l k n) := Lib.hid (by rw [← hF.out, HST.out, if_neg (fun h => hk h.1)])
        clear HST
        go_wp2
        go_roundw
        case rel => exact ⟨p + 1, by go_num, by omega, Lib.hid (bl_a hB.out _), HN⟩
        case measure => simp [intOf]; omega
    · have HE : Hid (textN l k n = []) := Lib.hid (by rw [← hF.out, drop_end l p hlt]; rfl)
      go_wp2
      go_ret
      exact ⟨by rw [HE.out]; rfl, hB.out⟩
set_option maxRecDepth 100000 in
set_option maxHeartbeats 4000000 in
theorem refText (v : Value) (l : List NM) (k n : Int) (w : World) (hv : Reads Cd.nm.seq w v l) (hl : l.length ≤ 100000) :
    Calls Try.prog 21 #[v, .int .i64 k, .int .i64 n] w fun e w' => e = .returned (.string ⟨(textN l k n).toArray⟩) ∧ w' = w := by
  have HV := Lib.hid hv
  obtain ⟨a0, c0, hv0, hc0, hm0⟩ := hv.len
  subst hv0
  clear hv
  go_enter Try.func21, Try.ntmps21
  go_wp2
  go_loop [7] (fun i => ∃ (p : Nat), i = .int .i64 p ∧ p ≤ l.length ∧ Hid (textN (l.drop p) k n = textN l k n)) (fun i => l.length - (intOf i).toNat)
  case atStart => exact ⟨0, rfl, Nat.zero_le _, Lib.hid rfl⟩
  case round =>
    obtain ⟨p, rfl, hpl, hF⟩ := hrel
    by_cases hlt : p < l.length
    · have HST := Lib.hid (text_step l k n p hlt)
      obtain ⟨b, off, cap, hv, hcap, hblt, hcell⟩ := nm_open HV.out (by omega)
      have hac : a0 = some ⟨b, off, none⟩ := by simp at hv; exact hv.1
      subst hac
      obtain ⟨e0, e1, e2⟩ := hcell p hlt
      generalize l[p] = x at e0 e1 e2 HST
      clear hcell hv
      by_cases hk : x.kd = k
      · by_cases hn : x.nu = n
        · have HE : Hid (textN l k n = x.nm) := Lib.hid (by rw [← hF.out, HST.out, if_pos ⟨hk, hn⟩])
          clear HST
          go_wp2
          go_ret
          exact ⟨by rw [HE.out]; rfl, rfl⟩
        · have HN : Hid (textN (l.drop (p + 1)) k n = textN l k n) := Lib.hid (by rw [← hF.out, HST.out, if_neg (fun h => hn h.2)])
          clear HST
          go_wp2
          go_round
          case rel => exact ⟨p + 1, by go_num, by omega, HN⟩
          case measure => simp [intOf]; omega
      · have HN : Hid (textN (l.drop (p + 1)) k n = textN l k n) := Lib.hid (by rw [← hF.out, HST.out, if_neg (fun h => hk h.1)])
        clear HST
        go_wp2
        go_round
        case rel => exact ⟨p + 1, by go_num, by omega, HN⟩
        case measure => simp [intOf]; omega
    · have HE : Hid (textN l k n = []) := Lib.hid (by rw [← hF.out, drop_end l p hlt]; rfl)
      go_wp2
      go_ret
      exact ⟨by rw [HE.out]; rfl, rfl⟩
end Go.Proofs.Ytdommneciojiaaa
