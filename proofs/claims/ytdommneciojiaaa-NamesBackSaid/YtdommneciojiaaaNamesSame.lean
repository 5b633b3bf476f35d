/- Contracts of clewlaw15.sameNames (of one list, read twice), clewlaw15.count, clewref15.Rises. -/
import Derived.Test.YtdommneciojiaaaNamesSource
import Derived.BigQuiet
namespace Go.Proofs.Ytdommneciojiaaa
open Go.RowKit Go.PlainAid
set_option linter.unusedVariables false
set_option linter.unusedSimpArgs false

set_option maxRecDepth 100000 in
set_option maxHeartbeats 4000000 in
theorem same15 (v v2 : Value) (l : List NM) (w : World) (hv : Reads Cd.nm.seq w v l) (hv2 : Reads Cd.nm.seq w v2 l) (hl : l.length ≤ 100000) :
    Calls Try.prog 13 #[v, v2] w fun e w' => e = .returned (.bool true) ∧ Below w.heap.size w w' := by
  have HV := Lib.hid hv
  have HV2 := Lib.hid hv2
  obtain ⟨a0, c0, hv0, hc0, hm0⟩ := hv.len
  obtain ⟨a1, c1, hv1, hc1, hm1⟩ := hv2.len
  subst hv0 hv1
  clear hv hv2
  go_enter Try.func13, Try.ntmps13
  go_wp2
  go_loopw [13] (fun i wr => ∃ (p n : Nat), i = .int .i64 p ∧ p ≤ l.length ∧ wr = w.drewN n) (fun i _ => l.length - (intOf i).toNat)
  case atStart => exact ⟨0, 0, rfl, Nat.zero_le _, rfl⟩
  case round =>
    obtain ⟨p, n, rfl, hpl, rfl⟩ := hrel
    by_cases hlt : p < l.length
    · obtain ⟨b, off, cap, hv, hcap, hblt, hcell⟩ := nm_open HV.out (by omega)
      have hac : a0 = some ⟨b, off, none⟩ := by simp at hv; exact hv.1
      subst hac
      obtain ⟨e0, e1, e2⟩ := hcell p hlt
      obtain ⟨b2, off2, cap2, hv2, hcap2, hblt2, hcell2⟩ := nm_open HV2.out (by omega)
      have hac2 : a1 = some ⟨b2, off2, none⟩ := by simp at hv2; exact hv2.1
      subst hac2
      obtain ⟨g0, g1, g2⟩ := hcell2 p hlt
      generalize l[p] = x at e0 e1 e2 g0 g1 g2
      clear hcell hcell2 hv hv2
      have hk0 : (0 : Int) ≤ (p : Int) := by omega
      have hk1 : (p : Int) < (l.length : Int) := by omega
      go_wp2_with fail
      go_quiet (fail)
      go_wp2
      go_roundw
      case rel => exact ⟨p + 1, _, by go_num, by omega, by first | rfl | exact World.drewN_drewN _ _ _⟩
      case measure => simp [intOf]; omega
    · go_wp2
      go_ret
      exact ⟨rfl, bl_drewN (Below.refl _ _) _⟩

theorem rises_iff (l : List NM) : RisesN l ↔ ∀ i, ∀ h : i + 1 < l.length, ltS (l[i]).nm (l[i + 1]).nm = true := by
  constructor
  · intro h i hi
    exact (List.pairwise_iff_getElem.1 h) i (i + 1) (by omega) hi (by omega)
  · intro h
    refine List.pairwise_iff_getElem.2 fun i j hi hj hij => ?_
    induction j with
    | zero => omega
    | succ j ih =>
      by_cases e : i = j
      · subst e; exact h i hj
      · exact ltS_trans (ih (by omega) (by omega)) (h j hj)
set_option maxRecDepth 100000 in
set_option maxHeartbeats 4000000 in
theorem refRises (v : Value) (l : List NM) (w : World) (hv : Reads Cd.nm.seq w v l) (hl : l.length ≤ 100000) :
    Calls Try.prog 16 #[v] w fun e w' => ∃ b, e = .returned (.bool b) ∧ (b = true → RisesN l) ∧ Below w.heap.size w w' := by
  have HV := Lib.hid hv
  obtain ⟨a0, c0, hv0, hc0, hm0⟩ := hv.len
  subst hv0
  clear hv
  go_enter Try.func16, Try.ntmps16
  go_wp2
  go_loopw [3] (fun i wr => ∃ (p n : Nat), i = .int .i64 (p + 1 : Nat) ∧ (p + 1 ≤ l.length ∨ p = 0) ∧ wr = w.drewN n ∧ Hid (∀ i, ∀ h : i + 1 < l.length, i < p → ltS (l[i]).nm (l[i + 1]).nm = true)) (fun i _ => l.length - (intOf i).toNat)
  case atStart => exact ⟨0, 0, rfl, .inr rfl, rfl, Lib.hid (fun i h h2 => by omega)⟩
  case round =>
    obtain ⟨p, n, rfl, hpl, rfl, HI⟩ := hrel
    by_cases hlt : p + 1 < l.length
    · obtain ⟨b, off, cap, hv, hcap, hblt, hcell⟩ := nm_open HV.out (by omega)
      have hac : a0 = some ⟨b, off, none⟩ := by simp at hv; exact hv.1
      subst hac
      have e0 := (hcell p (by omega)).1
      have g0 := (hcell (p + 1) hlt).1
      have hsub : IntKind.i64.wrap (((p + 1 : Nat) : Int) - 1) = (p : Int) := by rw [IntWalk.i64_in _ (by omega)]; omega
      have hk0 : (0 : Int) ≤ (p : Int) := by omega
      have hk1 : (p : Int) < (l.length : Int) := by omega
      have hk2 : (0 : Int) ≤ ((p + 1 : Nat) : Int) := by omega
      have hk3 : ((p + 1 : Nat) : Int) < (l.length : Int) := by omega
      have hnx : Hid (ltS (l[p]).nm (l[p + 1]).nm = true → ∀ i, ∀ h : i + 1 < l.length, i < p + 1 → ltS (l[i]).nm (l[i + 1]).nm = true) := Lib.hid (fun h1 i hi hip => by
        by_cases e : i = p
        · subst e; exact h1
        · exact HI.out i hi (by omega))
      generalize l[p] = x at e0 hnx
      generalize l[p + 1] = y at g0 hnx
      clear hcell hv
      obtain ⟨P1, hP1⟩ : ∃ q, q = p + 1 := ⟨_, rfl⟩
      rw [← hP1] at hsub hk2 hk3 g0 hlt
      rw [← hP1]
      cases hc : ltS x.nm y.nm with
      | true =>
        have HN := Lib.hid (hnx.out hc)
        have hbl : Op.bytesLess x.nm y.nm = true := hc
        have HP1 := Lib.hid hP1
        clear hc hnx hP1
        go_wp2_with fail
        go_quiet (fail)
        go_wp2
        go_roundw
        case rel => exact ⟨P1, _, by go_num, .inl (by omega), rfl, by rw [HP1.out]; exact HN⟩
        case measure => simp [intOf]; omega
      | false =>
        have hbl : Op.bytesLess x.nm y.nm = false := hc
        clear hc hnx hP1
        go_wp2_with fail
        go_quiet (fail)
        go_wp2
        go_ret
        exact ⟨_, rfl, (fun h => by cases h), bl_drewN (bl_drewN (Below.refl _ _) _) _⟩
    · have hR : Hid (RisesN l) := Lib.hid ((rises_iff l).2 (fun i hi => HI.out i hi (by omega)))
      go_wp2
      go_ret
      exact ⟨_, rfl, fun _ => hR.out, bl_drewN (Below.refl _ _) _⟩
end Go.Proofs.Ytdommneciojiaaa
