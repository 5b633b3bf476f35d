/- The map of words with bits: what it holds; dict.Make's closure that adds words. -/
import Derived.Test.YtlkdphbgephfiaaDictAds
import Derived.Maps.Own
import Derived.Maps.OwnSet
import Derived.Maps.Views
namespace Go.Proofs.Ytlkdphbgephfiaa
open Go.RowKit Go.PlainAid Go.Maps
set_option linter.unusedVariables false
set_option linter.unusedSimpArgs false

theorem strKeyed : Keyed Try.prog 9 := string_keyed Try.underlying9
theorem zeroI (w : World) : (zeroValue 3).run Try.prog w = .ok (.int .i64 0) w := by kernel_rfl
theorem strKeyM (l : List UInt8) (h : l.length ≤ maxLen) : keyOf Try.prog 9 (.string ⟨l.toArray⟩) = some (.string l) := by
  rw [keyOf_string Try.underlying9]
  unfold mapKey
  have e : (⟨l.toArray⟩ : ByteArray).size = l.length := by show l.toArray.size = _; simp
  simp [Try.underlying9, e, h]
/-- D holds these words with their bits. -/
def MapOf (ad : List Ad) (D : DataW Unit) : Prop := IsMap D ∧ (∀ s : List UInt8, D.atKey (.string s) (.lit (.int .i64 0)) = .lit (.int .i64 (bitsA ad s : Int))) ∧ ∀ s : List UInt8, Maps.has D (.string s) = decide (∃ a ∈ ad, a.2 = s)
/-- Block b is a map that holds these words with their bits. -/
def BitIs (w : World) (b : Nat) (ad : List Ad) : Prop := ∃ D : DataW Unit, w.ownsMap Try.prog 9 (plainElem Try.prog 3) b ad.length D ∧ MapOf ad D
theorem BitIs.new (w : World) : BitIs (w.alloc (.map #[] 0)) w.heap.size [] := ⟨.map [], World.ownsMap_made _ _ _ _, ⟨[], rfl⟩, fun s => rfl, fun s => by simp [Maps.has]⟩
theorem BitIs.kept {w w' : World} {b : Nat} {ad : List Ad} {row : Option Nat} (h : BitIs w b ad) (hg : w.grownBy w' row) (hne : row ≠ some b) : BitIs w' b ad := by
  obtain ⟨D, h1, h2⟩ := h
  exact ⟨D, h1.kept hg (Ne.symm hne), h2⟩
theorem MapOf.put {D : DataW Unit} {ad : List Ad} (h : MapOf ad D) (n : Nat) (x : List UInt8) : MapOf (ad ++ [(n, x)]) (D.put (.string x) (.lit (.int .i64 ((bitsA ad x ||| n : Nat) : Int)))) := by
  obtain ⟨hm, h1, h2⟩ := h
  refine ⟨by obtain ⟨es, rfl⟩ := hm; exact ⟨_, rfl⟩, fun s => ?_, fun s => ?_⟩
  · rw [bitsA_snoc]
    by_cases e : x = s
    · subst e
      rw [atKey_put_same hm (show WideAt.IsKeyLit (.string x) from trivial), if_pos rfl]
    · rw [atKey_put_other (fun h => e (by injection h with h; exact h.symm)), h1 s, if_neg e]
  · by_cases e : x = s
    · subst e
      rw [has_put_same hm (show WideAt.IsKeyLit (.string x) from trivial)]
      symm
      rw [decide_eq_true_eq]
      exact ⟨(n, x), List.mem_append_right _ (List.mem_singleton.2 rfl), rfl⟩
    · rw [has_put_other (fun h => e (by injection h with h; exact h.symm)), h2 s]
      rw [Bool.eq_iff_iff, decide_eq_true_eq, decide_eq_true_eq]
      constructor
      · rintro ⟨a, ha, h3⟩; exact ⟨a, List.mem_append_left _ ha, h3⟩
      · rintro ⟨a, ha, h3⟩
        rcases List.mem_append.1 ha with ha | ha
        · exact ⟨a, ha, h3⟩
        · rw [List.mem_singleton.1 ha] at h3; exact absurd h3 e
/-- What Make's variable holds: the map's block M, the variable's block R. -/
structure AdS (w : World) (M R : Nat) (ad : List Ad) : Prop where
  ne : M ≠ R
  mp : BitIs w M ad
  rf : BK w R [.map (some M)] 52
theorem AdS.kept {w w' : World} {M R : Nat} {ad : List Ad} {row : Option Nat} (h : AdS w M R ad) (hg : w.grownBy w' row) (h1 : row ≠ some M) (h2 : row ≠ some R) : AdS w' M R ad :=
  ⟨h.ne, h.mp.kept hg h1, h.rf.kept hg (fun j hj e => h2 (by rw [hj, e]))⟩
theorem AdS.alloc {w : World} {M R : Nat} {ad : List Ad} (h : AdS w M R ad) (o : Obj) : AdS (w.alloc o) M R ad := h.kept (gr_alloc w o none) (by simp) (by simp)
theorem AdS.drew {w : World} {M R : Nat} {ad : List Ad} (h : AdS w M R ad) : AdS w.drew M R ad := h.kept (gr_drewN w none 1) (by simp) (by simp)
theorem AdS.mlt {w : World} {M R : Nat} {ad : List Ad} (h : AdS w M R ad) : M < w.heap.size := by
  obtain ⟨D, h1, _⟩ := h.mp
  exact h1.lt
/-- A block with cells is not the map's. -/
theorem AdS.cellne {w : World} {M R : Nat} {ad : List Ad} (h : AdS w M R ad) {b o : Nat} {v : Value} (hc : w.cell? ⟨b, o, none⟩ = some v) : b ≠ M := by
  obtain ⟨D, h1, _⟩ := h.mp
  obtain ⟨es, clock, hb, _⟩ := h1
  intro e
  subst e
  simp [World.cell?, hb] at hc
theorem AdS.put {w w' : World} {M R : Nat} {ad : List Ad} {n : Nat} {x : List UInt8} {D : DataW Unit} (h : AdS w M R ad) (hm : MapOf ad D) (hg : w.grownBy w' (some M)) (ho : w'.ownsMap Try.prog 9 (plainElem Try.prog 3) M (ad.length + 1) (D.put (.string x) (.lit (.int .i64 ((bitsA ad x ||| n : Nat) : Int))))) : AdS w' M R (ad ++ [(n, x)]) :=
  ⟨h.ne, ⟨_, by simpa using ho, hm.put n x⟩, h.rf.kept hg (fun j hj e => h.ne (by have := Option.some.inj hj; omega))⟩
theorem cell_grown {w w' : World} {M b o : Nat} {v : Value} (hg : w.grownBy w' (some M)) (hb : b < w.heap.size) (hne : b ≠ M) (h : w.cell? ⟨b, o, none⟩ = some v) : w'.cell? ⟨b, o, none⟩ = some v := by
  have := hg.block b hb (fun e => hne (Option.some.inj e))
  rw [World.cell?_of_block (a := ⟨b, o, none⟩) this]; exact h
set_option maxRecDepth 100000 in
set_option maxHeartbeats 4000000 in
theorem dictAdd (w : World) (M R : Nat) (ad : List Ad) (b : Nat) (vw : Value) (ws : List TxC) (hS : AdS w M R ad) (hw : Reads Cd.ss w vw ws) (hok : AdsOk ad) (hb : b < 64) (hl : ad.length + ws.length ≤ 100000) :
    Calls Try.prog 25 #[.int .i64 b, vw, .pointer (some ⟨R, 0, none⟩)] w fun e w' => e = .returned (.tuple #[]) ∧ AdS w' M R (ad ++ mkA b ws) ∧ w.grownBy w' (some M) := by
  have HS := Lib.hid hS
  have HW := Lib.hid hw
  have HL := Lib.hid (strs_le hw)
  have HOK := Lib.hid hok
  obtain ⟨a1, c1, hv1, hc1, hm1⟩ := hw.q.len
  subst hv1
  unfold maxLen at hm1
  clear hS hw hok
  go_enter Try.func25, Try.ntmps25
  go_wp2
  go_loopw [9] (fun i wr => ∃ (p : Nat), i = .int .i64 p ∧ p ≤ ws.length ∧ Hid (AdS wr M R (ad ++ mkA b (ws.take p))) ∧ Hid (w.grownBy wr (some M))) (fun i _ => ws.length - (intOf i).toNat)
  case atStart => exact ⟨0, rfl, Nat.zero_le _, Lib.hid (by simpa [mkA] using HS.out), Lib.hid (gr_refl _ _)⟩
  case round =>
    obtain ⟨p, rfl, hpl, HA, HG⟩ := hrel
    by_cases hlt : p < ws.length
    · obtain ⟨g, off, cap, hv, hcap, hblt, hcell⟩ := str_open HW.out (by omega)
      have hac : a1 = some ⟨g, off, none⟩ := by simp at hv; exact hv.1
      subst hac
      obtain ⟨hz, f0⟩ := hcell p hlt
      have e0 := cell_grown HG.out hblt (HS.out.cellne f0) f0
      have hads : AdsOk (ad ++ mkA b (ws.take p)) := HOK.out.app (AdsOk.of hb (fun x hx => HL.out x (List.mem_of_mem_take hx)))
      have HE : Hid (ad ++ mkA b (ws.take (p + 1)) = (ad ++ mkA b (ws.take p)) ++ [(b, ws[p])]) := Lib.hid (by
        unfold mkA
        rw [List.take_succ_eq_append_getElem hlt, List.map_append, ← List.append_assoc]; rfl)
      have hle : (ad ++ mkA b (ws.take p)).length ≤ 100000 := by simp [mkA]; omega
      generalize ws[p] = x at e0 f0 hz HE
      have hm64 := bitsA_lt (fun a ha => (hads a ha).1) x
      have kr := HA.out.rf.cell 0
      simp only [List.getElem?_cons_zero] at kr
      obtain ⟨D, hD, hMO⟩ := HA.out.mp
      obtain ⟨cc, hrunL, hat, hwc⟩ := hD.lookup_int strKeyed Try.underlying52 Try.underlying3 (zeroI wr) (strKeyM x hz)
      have hcc : cc = (bitsA (ad ++ mkA b (ws.take p)) x : Int) := by
        have h1 := hMO.2.1 x
        rw [hat] at h1
        simpa using h1
      subst hcc
      have hor := or_val (bitsA (ad ++ mkA b (ws.take p)) x) b hm64 hb
      obtain ⟨w2, hrunU, hown2, hgrow2⟩ := hD.update strKeyed Try.underlying52 (by unfold maxLen; omega) (strKeyM x hz) (plainElem_int Try.underlying3 (i64_wf (n := ((bitsA (ad ++ mkA b (ws.take p)) x ||| b : Nat) : Int)) (by omega) (by have := Nat.or_lt_two_pow (n := 6) hm64 hb; omega)))
      have HA2 : Hid (AdS w2 M R (ad ++ mkA b (ws.take (p + 1)))) := Lib.hid (by rw [HE.out]; exact HA.out.put hMO hgrow2 hown2)
      have HG2 := Lib.hid (gr_trans HG.out hgrow2)
      generalize bitsA (ad ++ mkA b (ws.take p)) x = m at hrunL hor hrunU
      have hk0 : (0 : Int) ≤ (p : Int) := by omega
      have hk1 : (p : Int) < (ws.length : Int) := by omega
      clear hcell hv hads hle hD hMO hat hwc hown2 hgrow2 f0 hm64 HE
      go_wp2
      go_roundw
      case rel => exact ⟨p + 1, by go_num, by omega, HA2, HG2⟩
      case measure => simp [intOf]; omega
    · have hp : ws.take p = ws := List.take_of_length_le (by omega)
      rw [hp] at HA
      go_wp2
      go_end0
      exact ⟨rfl, HA.out, HG.out⟩
end Go.Proofs.Ytlkdphbgephfiaa
