/- Contract of clewref35.withAll. -/
import Derived.Test.YtlkdphbgephfiaaDictWith
namespace Go.Proofs.Ytlkdphbgephfiaa
open Go.RowKit Go.PlainAid
set_option linter.unusedVariables false
set_option linter.unusedSimpArgs false

theorem i64_wf {n : Int} (h : -9223372036854775808 ≤ n) (h2 : n ≤ 9223372036854775807) : (Lit.int .i64 n).wf = true := by
  have e1 : IntKind.i64.min = -9223372036854775808 := by decide
  have e2 : IntKind.i64.max = 9223372036854775807 := by decide
  show (decide (IntKind.i64.min ≤ n) && decide (n ≤ IntKind.i64.max)) = true
  rw [e1, e2]; simp [h, h2]
theorem reads_nilE {α : Type} {c : Cd α} (w : World) : Reads c.seq w nilV [] := ⟨_, [], rfl, ⟨SLN.nil _ _ _ _, none, 0, rfl, Nat.le_refl _⟩, rfl, fun i h => by cases h⟩
/-- What an entry's fields are. -/
def EnOk (x : EnC) : Prop := x.wd.length ≤ maxLen ∧ (Lit.int .i64 x.bt).wf = true
theorem OwE.reads {w : World} {B : Nat} {v : Value} {L : List EnC} (h : OwE w B v L) (hm : L.length ≤ maxLen) (hok : ∀ x ∈ L, EnOk x) : Reads Cd.en.seq w v L := by
  have hlen : ∀ r ∈ L.map enCells, r.length = 2 := fun r hr => by obtain ⟨x, _, rfl⟩ := List.mem_map.1 hr; rfl
  have hc := @World.ownsRow.cells
  unfold OwE at h
  rcases h.2 with ⟨e1, e2⟩ | ⟨g, cap, cur, e, hb, hg, hn, hm2, hcs, ht⟩
  · have hL : L = [] := by
      cases L with
      | nil => rfl
      | cons x t => simp [enCells] at e2
    subst hL
    subst e1
    exact reads_nilE w
  · subst e
    have hlt := lt_of_block hg
    refine ⟨_, L.map enCells, rfl, ⟨⟨by simpa using hm, hlen, .inr ⟨g, 0, cap, by simp, hlt, fun i j hi hj => ?_⟩⟩, some ⟨g, 0, none⟩, cap, by simp, by simpa using hn⟩, by simp, fun i h1 h2 => ?_⟩
    · have hi' : i < L.length := by simpa using hi
      have hj' : j < 2 := hj
      have hf := flat_at (k := 2) (L.map enCells) hlen i j (by simpa using hi') hj'
      have hl : j < (enCells L[i]).length := hj'
      have hv : ((L.map enCells)[i])[j]? = some ((enCells L[i])[j]) := by rw [List.getElem_map, List.getElem?_eq_getElem hl]
      rw [hv] at hf
      have h2 := h.cells (g := g) rfl (i * 2 + j) _ hf
      rw [addr0] at h2
      rw [hv]
      show w.cell? ⟨g, 0 + i * 2 + j, none⟩ = _
      rw [Nat.zero_add]; exact h2
    · have := hok L[i] (List.getElem_mem _)
      exact ⟨by rw [List.getElem_map], this.1, this.2⟩
/-- Words with bits as they may be. -/
def AdsOk (ad : List Ad) : Prop := ∀ a ∈ ad, a.1 < 64 ∧ a.2.length ≤ maxLen
theorem AdsOk.app {a b : List Ad} (h : AdsOk a) (g : AdsOk b) : AdsOk (a ++ b) := fun x hx => (List.mem_append.1 hx).elim (h x) (g x)
theorem AdsOk.of {n : Nat} {l : List TxC} (hn : n < 64) (h : ∀ x ∈ l, x.length ≤ maxLen) : AdsOk (l.map fun x => (n, x)) := fun a ha => by
  obtain ⟨x, hx, rfl⟩ := List.mem_map.1 ha
  exact ⟨hn, h x hx⟩
theorem dict_ok {ad : List Ad} {D : List EnC} (h : DictIs ad D) (g : AdsOk ad) : ∀ x ∈ D, EnOk x := fun x hx => by
  obtain ⟨⟨a, h1, h2⟩, h3⟩ := (h.2 x).1 hx
  have h4 := bitsA_lt (fun a ha => (g a ha).1) x.wd
  exact ⟨by rw [← h2]; exact (g a h1).2, by rw [h3]; exact i64_wf (by omega) (by omega)⟩
theorem strs_le {w : World} {v : Value} {l : List TxC} (h : Reads Cd.ss w v l) : ∀ x ∈ l, x.length ≤ maxLen := by
  obtain ⟨v', rows, h1, h2, h3, h4⟩ := h.q
  intro n hn
  obtain ⟨i, hi, rfl⟩ := List.getElem_of_mem hn
  exact (h4 i (by omega) hi).2
set_option maxRecDepth 100000 in
set_option maxHeartbeats 4000000 in
theorem refWithAll (v vw : Value) (D : List EnC) (ad : List Ad) (ws : List TxC) (b : Nat) (w : World) (hD : DictIs ad D) (hv : Reads Cd.en.seq w v D) (hw : Reads Cd.ss w vw ws) (hok : AdsOk ad) (hb : b < 64) (hl : ad.length + ws.length ≤ 100000) :
    Calls Try.prog 32 #[v, vw, .int .i64 b] w fun e w' => ∃ r D', e = .returned r ∧ DictIs (ad ++ ws.map fun x => (b, x)) D' ∧ Reads Cd.en.seq w' r D' ∧ Below w.heap.size w w' := by
  have HD := Lib.hid hD
  have HV := Lib.hid hv
  have HW := Lib.hid hw
  have HL := Lib.hid (strs_le hw)
  have HOK := Lib.hid hok
  obtain ⟨a1, c1, hv1, hc1, hm1⟩ := hw.q.len
  subst hv1
  unfold maxLen at hm1
  clear hD hv hw hok
  go_enter Try.func32, Try.ntmps32
  go_wp2
  go_loopw [0, 7] (fun vd i wr => ∃ (p : Nat) (E : List EnC), i = .int .i64 p ∧ p ≤ ws.length ∧ Hid (DictIs (ad ++ (ws.take p).map fun x => (b, x)) E) ∧ Hid (Reads Cd.en.seq wr vd E) ∧ Hid (Below w.heap.size w wr)) (fun _ i _ => ws.length - (intOf i).toNat)
  case atStart => exact ⟨0, D, rfl, Nat.zero_le _, Lib.hid (by simpa using HD.out), HV, Lib.hid (Below.refl _ _)⟩
  case round =>
    obtain ⟨p, E, rfl, hpl, HE, HR, hB⟩ := hrel
    by_cases hlt : p < ws.length
    · obtain ⟨g, off, cap, hv, hcap, hblt, hcell⟩ := str_open (HW.out.below hB.out) (by omega)
      have hac : a1 = some ⟨g, off, none⟩ := by simp at hv; exact hv.1
      subst hac
      obtain ⟨hz, e0⟩ := hcell p hlt
      have hads : AdsOk (ad ++ (ws.take p).map fun x => (b, x)) := HOK.out.app (AdsOk.of hb (fun x hx => HL.out x (List.mem_of_mem_take hx)))
      have hle := dict_len HE.out
      have hle2 : E.length ≤ 100000 := by
        simp at hle
        omega
      have HN : Hid (DictIs (ad ++ (ws.take (p + 1)).map fun x => (b, x)) (withGo ws[p] b E false)) := Lib.hid (by
        rw [List.take_succ_eq_append_getElem hlt, List.map_append, ← List.append_assoc]
        exact with_is HE.out b ws[p])
      have HNok : Hid (AdsOk (ad ++ (ws.take (p + 1)).map fun x => (b, x))) := Lib.hid (HOK.out.app (AdsOk.of hb (fun x hx => HL.out x (List.mem_of_mem_take hx))))
      have HC := Lib.hid (fun w v h => refWith v E ws[p] b w h hle2 (dict_bits HE.out (fun a ha => (hads a ha).1)) hb)
      have HNL : Hid ((withGo ws[p] b E false).length ≤ maxLen) := Lib.hid (by
        have := dict_len HN.out
        simp at this
        unfold maxLen; omega)
      generalize withGo ws[p] b E false = F at HN HC HNL
      generalize ws[p] = x at e0 HC
      have hk0 : (0 : Int) ≤ (p : Int) := by omega
      have hk1 : (p : Int) < (ws.length : Int) := by omega
      clear hcell hv hads hle hz
      go_wp2_with (go_at_call 58; refine (HC.out _ _ HR.out).mono ?_; rintro e w1 ⟨r, rfl, hO, hb1⟩; have HO := Lib.hid (hO.reads HNL.out (dict_ok HN.out HNok.out)); have HB1 := Lib.hid (bl_then hB.out hb1); clear hO hb1)
      go_roundw
      case rel => exact ⟨p + 1, F, by go_num, by omega, HN, HO, HB1⟩
      case measure => simp [intOf]; omega
    · have hp : ws.take p = ws := List.take_of_length_le (by omega)
      rw [hp] at HE
      go_wp2
      go_ret
      exact ⟨_, E, rfl, HE.out, HR.out, hB.out⟩
end Go.Proofs.Ytlkdphbgephfiaa
