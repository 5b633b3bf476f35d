/- Contract of asm.Normal. -/
import Derived.Test.YtbcpopakdlplgaaDoorAsmRd
import Derived.Test.YtbcpopakdlplgaaDoorAsmE
import Derived.LoopTactic
import Derived.Deep.AppendLies
import Derived.Maps.AppendAt
namespace Go.Proofs.YtbcpopakdlplgaaDoor
open Go.RowKit Go.PlainAid Go.Maps
set_option linter.unusedVariables false
set_option linter.unusedSimpArgs false

theorem asksC2 (x : IN) (b : Bool) (hb : isJ x = b) (w : World) : Calls Tryd.prog 23 #[insV x] w fun e w' => e = .returned (.bool b) ∧ Below w.heap.size w w' := by rw [← hb]; exact asksC x w
theorem jumpsC2 (x : IN) (b : Bool) (hb : isJ x = b) (w : World) : Calls Tryd.prog 26 #[insV x] w fun e w' => e = .returned (.bool b) ∧ Below w.heap.size w w' := by rw [← hb]; exact jumpsC x w
theorem asked_snoc (l : List IN) (x : IN) (a : Int) : askedL (l ++ [x]) a = (askedL l a || (isJ x && x.arg == a)) := by simp [askedL, List.any_append]
theorem take_snocI (l : List IN) (k : Nat) (h : k < l.length) : l.take (k + 1) = l.take k ++ [l[k]] := List.take_succ_eq_append_getElem h
/-- Which labels the first k instructions ask for. -/
def askK (l : List IN) (k : Nat) : Int → Bool := fun a => askedL (l.take k) a
theorem askK_no {l : List IN} {k : Nat} (h : k < l.length) (hj : isJ l[k] = false) (a : Int) : askK l (k + 1) a = askK l k a := by
  unfold askK; rw [take_snocI l k h, asked_snoc, hj]; simp
theorem askK_yes {l : List IN} {k : Nat} (h : k < l.length) (hj : isJ l[k] = true) (a : Int) : askK l (k + 1) a = if a = l[k].arg then true else askK l k a := by
  unfold askK; rw [take_snocI l k h, asked_snoc, hj]
  by_cases e : a = l[k].arg
  · subst e; simp
  · rw [if_neg e]; simp [Ne.symm e]
/-- What the walk asks of a list's cells. -/
def CellsI (w : World) (a : Option Addr) (l : List IN) : Prop := ∀ i (hi : i < l.length), ∃ b off, a = some ⟨b, off, none⟩ ∧ b < w.heap.size ∧ InW l[i] ∧ w.cell? ⟨b, off + i * 2, none⟩ = some (.int .i64 l[i].op) ∧ w.cell? ⟨b, off + i * 2 + 1, none⟩ = some (.int .i64 l[i].arg)
theorem cells_of {w : World} {a : Option Addr} {c n : Nat} {l : List IN} (h : Reads Cd.ins.seq w (.slice a n c) l) : CellsI w a l ∧ l.length = n := by
  obtain ⟨a', c', e, _⟩ := h.len
  refine ⟨fun i hi => ?_, by simp at e; omega⟩
  obtain ⟨b, off, cap, e2, _, hb, hc⟩ := ins_open h (by omega)
  simp at e2
  exact ⟨b, off, e2.1, hb, (hc i hi).1, (hc i hi).2.1, (hc i hi).2.2⟩
theorem CellsI.below {w w' : World} {a : Option Addr} {l : List IN} (h : CellsI w a l) (hb : Below w.heap.size w w') : CellsI w' a l := fun i hi => by
  obtain ⟨b, off, e, h1, h2, h3, h4⟩ := h i hi
  exact ⟨b, off, e, Nat.lt_of_lt_of_le h1 hb.size, h2, by rw [hb.cell (p := ⟨b, off + i * 2, none⟩) h1]; exact h3, by rw [hb.cell (p := ⟨b, off + i * 2 + 1, none⟩) h1]; exact h4⟩
theorem news_at {w : World} {g : Nat} (hg : w.heap.size = g) (cs : List Value) (T : TypeId) : ∀ j u, cs[j]? = some u → (w.alloc (.cells cs.toArray T)).cell? ((⟨g, 0, none⟩ : Addr).add j) = some u := by subst hg; exact news_lit w cs T
theorem insC_one (x : IN) : ∀ u ∈ insC x, u.oneCell' = true := by
  intro u hu
  simp [insC] at hu
  rcases hu with rfl | rfl <;> rfl
theorem ns_app {w wr W2 w5 : World} {B0 B1 n j : Nat} {f : Int → Bool} {ps : List (Int × Int)} {v : Value} {L : List IN} (HA : MetB wr B0 n f) (HP : NumIs wr B1 j ps) (HW : Below w.heap.size w wr) (hO : OwI wr (B1 + 1) v L) (h2 : Below wr.heap.size wr W2) (hg : W2.grownBy w5 v.ownBlock)
    (h01 : B0 < B1) (hw : w.heap.size = B0) (hz : B1 + 1 ≤ wr.heap.size) : MetB w5 B0 n f ∧ NumIs w5 B1 j ps ∧ Below w.heap.size w w5 ∧ B1 + 1 ≤ w5.heap.size := by
  have hlo := ow_lo hO
  refine ⟨(HA.below h2).kept hg (fun e => by have := hlo _ e; omega), (HP.below h2).kept hg (fun e => by have := hlo _ e; omega), (bl_thenA HW h2).grown hg (bl_thenA HW h2).size (fun k hk => by have := hlo _ hk; omega), ?_⟩
  have := h2.size; have := hg.size; omega
theorem bl_one (w : World) (o : Obj) : Below w.heap.size w (w.alloc o) := bl_a (Below.refl _ _) o
theorem bl_two (w : World) (o o' : Obj) : Below w.heap.size w ((w.alloc o).alloc o') := bl_a (bl_a (Below.refl _ _) o) o'
/-- The struct that has been laid first stays while a row of one's own is written. -/
theorem BK_app {wr w5 : World} {o : Obj} {B : Nat} {v : Value} {L : List IN} {cs : List Value} {T : TypeId} (hO : OwI wr B v L) (hg : ((wr.alloc (.cells cs.toArray T)).alloc o).grownBy w5 v.ownBlock) : BK w5 wr.heap.size cs T :=
  ((BK.new wr cs T).alloc o).kept hg (fun k hk => by have := (World.ownsRow.lt hO k hk).2; omega)
/-- Is the last one a label? -/
def lastL (L : List IN) : Bool := match L.getLast? with | some x => isL x | none => false
theorem lastL_snoc (L : List IN) (x : IN) : lastL (L ++ [x]) = isL x := by simp [lastL]
theorem scan_a {l0 t : List IN} {x : IN} {bes : Bool} {n : Int} (h : isL x = false) : scanP l0 (x :: t) bes n = (x :: (scanP l0 t false n).1, (scanP l0 t false n).2) := by rw [scanP, if_pos h]
theorem scan_b {l0 t : List IN} {x : IN} {bes : Bool} {n : Int} (h : isL x = true) (ha : askedL l0 x.arg = false) : scanP l0 (x :: t) bes n = scanP l0 t bes n := by rw [scanP, if_neg (by simp [h]), if_pos ha]
theorem scan_c {l0 t : List IN} {x : IN} {n : Int} (h : isL x = true) (ha : askedL l0 x.arg = true) : scanP l0 (x :: t) true n = ((scanP l0 t true n).1, (x.arg, n - 1) :: (scanP l0 t true n).2) := by rw [scanP, if_neg (by simp [h]), if_neg (by simp [ha]), if_pos rfl]
theorem scan_d {l0 t : List IN} {x : IN} {n : Int} (h : isL x = true) (ha : askedL l0 x.arg = true) : scanP l0 (x :: t) false n = (⟨38, n⟩ :: (scanP l0 t true (n + 1)).1, (x.arg, n) :: (scanP l0 t true (n + 1)).2) := by rw [scanP, if_neg (by simp [h]), if_neg (by simp [ha]), if_neg (by simp)]
theorem OwI.last {w : World} {base : Nat} {v : Value} {L : List IN} {q : Nat} (h : OwI w base v L) (hq : L.length = q + 1) (hm : q + 1 ≤ maxLen) : ∃ g cap, v = .slice (some ⟨g, 0, none⟩) (q + 1) cap ∧ base ≤ g ∧ g < w.heap.size ∧ ∃ x, L.getLast? = some x ∧ w.cell? ⟨g, q * 2, none⟩ = some (.int .i64 x.op) := by
  have h1 : SLN 2 w v (L.map insC) := SLN.own h (by simp) (fun r hr => by obtain ⟨x, _, rfl⟩ := List.mem_map.1 hr; rfl) (by rw [hq]; exact hm)
  rcases h.2 with ⟨_, h0⟩ | ⟨g, cap, cur, e, hbg, hg, hnc, hcm, hcs, htake⟩
  · omega
  · subst e
    refine ⟨g, cap, by rw [hq], hbg, lt_of_block hg, L[q], by rw [List.getLast?_eq_getElem?, show L.length - 1 = q by omega]; exact List.getElem?_eq_getElem _, ?_⟩
    have := h.cellAt (q * 2) (by omega)
    rw [this]
    have hf := flat_at (k := 2) (L.map insC) (fun r hr => by obtain ⟨x, _, rfl⟩ := List.mem_map.1 hr; rfl) q 0 (by simp; omega) (by decide)
    rw [Nat.add_zero] at hf
    rw [hf]; simp [insC]
theorem OwI.shape {w : World} {base : Nat} {v : Value} {L : List IN} (h : OwI w base v L) (hn : 0 < L.length) : ∃ g cap, v = .slice (some ⟨g, 0, none⟩) L.length cap ∧ base ≤ g ∧ g < w.heap.size := by
  rcases h.2 with ⟨_, h0⟩ | ⟨g, cap, cur, e, hbg, hg, _⟩
  · omega
  · exact ⟨g, cap, e, hbg, lt_of_block hg⟩
theorem OwI.cells {w : World} {base g n cap : Nat} {L : List IN} (h : OwI w base (.slice (some ⟨g, 0, none⟩) n cap) L) (hn : L.length = n) (i : Nat) (hi : i < L.length) :
    w.cell? ⟨g, i * 2, none⟩ = some (.int .i64 L[i].op) ∧ w.cell? ⟨g, i * 2 + 1, none⟩ = some (.int .i64 L[i].arg) ∧ w.frozen? ⟨g, i * 2 + 1, none⟩ = false := by
  unfold OwI at h
  rw [hn] at h
  have hf := fun j hj => flat_at (k := 2) (L.map insC) (fun r hr => by obtain ⟨x, _, rfl⟩ := List.mem_map.1 hr; rfl) i j (by simpa using hi) hj
  refine ⟨?_, ?_, h.frozenAt _⟩
  · have := hf 0 (by decide); rw [Nat.add_zero] at this
    rw [h.cellAt _ (by omega), this]; simp [insC]
  · rw [h.cellAt _ (by omega), hf 1 (by decide)]; simp [insC]
theorem flat_set : ∀ (L : List IN) (i : Nat) (hi : i < L.length) (a : Int), ((L.map insC).flatten).set (i * 2 + 1) (.int .i64 a) = ((L.set i ⟨L[i].op, a⟩).map insC).flatten
  | x :: t, 0, _, a => by simp [insC]
  | x :: t, i + 1, hi, a => by
    have ih := flat_set t i (by simpa using hi) a
    have e : (i + 1) * 2 + 1 = i * 2 + 1 + 1 + 1 := by omega
    rw [e]
    simp only [List.map_cons, List.flatten_cons, List.set_cons_succ, List.getElem_cons_succ, insC, List.cons_append, List.nil_append] at ih ⊢
    rw [ih]
theorem OwI.put {w : World} {base g n cap : Nat} {L : List IN} (h : OwI w base (.slice (some ⟨g, 0, none⟩) n cap) L) (hn : L.length = n) (i : Nat) (hi : i < L.length) (a : Int) :
    OwI (w.setCell ⟨g, i * 2 + 1, none⟩ (.int .i64 a)) base (.slice (some ⟨g, 0, none⟩) n cap) (L.set i ⟨L[i].op, a⟩) := by
  unfold OwI at h ⊢
  rw [hn] at h
  have := (h.stored (i * 2 + 1) (.int .i64 a)).1
  rw [flat_set L i hi a] at this
  rw [List.length_set, hn]; exact this
/-- The first i of a list, turned. -/
def mixL (f : IN → IN) (L : List IN) (i : Nat) : List IN := (L.take i).map f ++ L.drop i
theorem mix_len (f : IN → IN) (L : List IN) (i : Nat) : (mixL f L i).length = L.length := by simp [mixL]; omega
theorem mix_at (f : IN → IN) (L : List IN) (i : Nat) (h : i < L.length) : (mixL f L i)[i]'(by rw [mix_len]; exact h) = L[i] := by
  unfold mixL
  rw [List.getElem_append_right (by simp; omega)]
  simp; congr 1; omega
theorem mix_set (f : IN → IN) (L : List IN) (i : Nat) (h : i < L.length) : (mixL f L i).set i (f L[i]) = mixL f L (i + 1) := by
  unfold mixL
  have e1 : i - ((L.take i).map f).length = 0 := by simp; omega
  rw [List.set_append_right _ _ (by simp; omega), e1, List.drop_eq_getElem_cons h, List.take_succ_eq_append_getElem h, List.map_append, List.append_assoc]
  rfl
theorem mix_skip (f : IN → IN) (L : List IN) (i : Nat) (h : i < L.length) (hf : f L[i] = L[i]) : mixL f L (i + 1) = mixL f L i := by
  unfold mixL
  rw [List.drop_eq_getElem_cons h, List.take_succ_eq_append_getElem h, List.map_append, List.append_assoc]
  congr 1
  show f L[i] :: _ = _
  rw [hf]; rfl
theorem mix_end (f : IN → IN) (L : List IN) : mixL f L L.length = L.map f := by simp [mixL]
set_option maxRecDepth 100000 in
set_option maxHeartbeats 8000000 in
theorem normC (v : Value) (l : List IN) (w : World) (hr : Reads Cd.ins.seq w v l) (hl : l.length ≤ 100000) :
    Calls Tryd.prog 11 #[v] w fun e w' => ∃ v', e = .returned v' ∧ OwI w' w.heap.size v' (normP l) ∧ Below w.heap.size w w' := by
  obtain ⟨a, c, hv, hcap, _⟩ := hr.len
  subst hv
  have HC := Lib.hid (cells_of hr).1
  obtain ⟨n, hn⟩ : ∃ n, l.length = n := ⟨_, rfl⟩
  have HN := Lib.hid hn
  rw [hn] at hl hcap ⊢
  clear hr hn
  have hmm := @run_makeMap Tryd.prog
  have HM0 := Lib.hid (MetB.new w)
  go_enter Tryd.func11, Tryd.ntmps11
  go_wp2
  go_loopw [16] (fun i wr => ∃ k : Nat, i = .int .i64 k ∧ k ≤ n ∧ Hid (MetB wr w.heap.size k (askK l k)) ∧ Hid (Below w.heap.size w wr)) (fun i _ => n - (intOf i).toNat)
  case atStart => exact ⟨0, rfl, Nat.zero_le _, Lib.hid (HM0.out.to fun _ _ => rfl), Lib.hid (bl_a (Below.refl _ _) _)⟩
  case round =>
    obtain ⟨k, rfl, hk, HM, HB⟩ := hrel
    by_cases hlt : k < n
    · have hkl : k < l.length := by rw [HN.out]; exact hlt
      obtain ⟨b, off, ha, hblt, hw, hx0, hx1⟩ := (HC.out.below HB.out) k hkl
      subst ha
      obtain ⟨x, hx⟩ : ∃ x, l[k] = x := ⟨_, rfl⟩
      have HX := Lib.hid hx
      rw [hx] at hw hx0 hx1
      cases hj : isJ x with
      | true =>
        have HA := Lib.hid (fun w => asksC2 x true hj w)
        have HK2 := Lib.hid (askK_yes hkl (by rw [hx]; exact hj))
        rw [hx] at HK2
        clear hx hj
        go_wp2_with fail
        refine (HA.out _).mono ?_
        rintro e w1 ⟨rfl, hb1⟩
        have HB1 : Hid (Below wr.heap.size wr w1) := Lib.hid (bl_thenA (bl_a (Below.refl _ _) _) hb1)
        obtain ⟨w2, hrun, hm2, hg2⟩ := (HM.out.below HB1.out).update (by unfold maxLen; omega) hw.2 true
        have hk1 := (BK.new wr [.int .i64 x.op, .int .i64 x.arg] 37).below hb1
        have z1 := hk1.cell 1
        simp only [List.getElem?_cons_zero, List.getElem?_cons_succ] at z1
        have HM2 : Hid (MetB w2 w.heap.size (k + 1) (askK l (k + 1))) := Lib.hid (hm2.to fun a _ => (HK2.out a).symm)
        have HB2 : Hid (Below w.heap.size w w2) := Lib.hid ((bl_thenA HB.out HB1.out).grown hg2 (bl_thenA HB.out HB1.out).size (fun j hj => by cases hj; exact Nat.le_refl _))
        clear hm2 hg2 hb1 hk1
        go_wp2
        go_roundw
        case rel => exact ⟨k + 1, by go_num, by omega, HM2, HB2⟩
        case measure => simp [intOf]; omega
      | false =>
        have HA := Lib.hid (fun w => asksC2 x false hj w)
        have HK2 := Lib.hid (askK_no hkl (by rw [hx]; exact hj))
        clear hx hj
        go_wp2_with fail
        refine (HA.out _).mono ?_
        rintro e w1 ⟨rfl, hb1⟩
        have HB1 : Hid (Below wr.heap.size wr w1) := Lib.hid (bl_thenA (bl_a (Below.refl _ _) _) hb1)
        have HM2 : Hid (MetB w1 w.heap.size (k + 1) (askK l (k + 1))) := Lib.hid (by
          obtain ⟨D, h1, h2, h3⟩ := HM.out.below HB1.out
          exact ⟨D, h1.mono (by omega), h2, fun a ha => by rw [h3 a ha, HK2.out a]⟩)
        have HB2 : Hid (Below w.heap.size w w1) := Lib.hid (bl_thenA HB.out HB1.out)
        clear hb1
        go_wp2
        go_roundw
        case rel => exact ⟨k + 1, by go_num, by omega, HM2, HB2⟩
        case measure => simp [intOf]; omega
    · have hkn : k = n := by omega
      subst hkn
      have hMA : Hid (MetB (wr.alloc (.map #[] 0)) w.heap.size k (askedL l)) := Lib.hid ((HM.out.below (bl_a (Below.refl _ _) _)).to fun a _ => by unfold askK; rw [← HN.out, List.take_length])
      have hMN : Hid (NumIs (wr.alloc (.map #[] 0)) wr.heap.size 0 []) := Lib.hid (NumIs.new wr)
      have hMB : Hid (Below w.heap.size w (wr.alloc (.map #[] 0))) := Lib.hid (bl_a HB.out _)
      have hBB := HM.out.lt
      obtain ⟨B0, hB0⟩ : ∃ B, w.heap.size = B := ⟨_, rfl⟩
      obtain ⟨B1, hB1⟩ : ∃ B, wr.heap.size = B := ⟨_, rfl⟩
      have HB0 := Lib.hid hB0
      have HB1 := Lib.hid hB1
      rw [hB0, hB1] at hBB
      rw [hB0] at hMA
      rw [hB1] at hMN
      have hz1 : B1 + 1 ≤ (wr.alloc (.map #[] 0)).heap.size := by rw [World.size_alloc, hB1]; exact Nat.le_refl _
      go_wp2_with fail
      clear HM HB hB0 hB1
      go_loopw [6, 8, 29] (fun v m i wz => ∃ (j : Nat) (L : List IN) (ps : List (Int × Int)) (q : Int), i = .int .i64 j ∧ j ≤ k ∧ m = .int .i64 q ∧ 0 ≤ q ∧ q ≤ j ∧ L.length ≤ j ∧ B1 + 1 ≤ wz.heap.size ∧ Hid (OwI wz (B1 + 1) v L) ∧ Hid (MetB wz B0 k (askedL l)) ∧ Hid (NumIs wz B1 j ps) ∧ Hid (Below w.heap.size w wz) ∧ Hid (∀ x ∈ L, InW x) ∧ Hid ((L ++ (scanP l (l.drop j) (lastL L) q).1, ps ++ (scanP l (l.drop j) (lastL L) q).2) = scanP l l false 0)) (fun _ _ i _ => k - (intOf i).toNat)
      case atStart => exact ⟨0, [], [], 0, rfl, Nat.zero_le _, rfl, by omega, by omega, by simp, hz1, Lib.hid (OwI.nil _ _), hMA, hMN, hMB, Lib.hid (fun x h => by cases h), Lib.hid (by simp [lastL])⟩
      case round =>
        obtain ⟨j, L, ps, q, rfl, hj, rfl, hq0, hqj, hLj, hzs, HO, HA, HP, HW, HI, HE⟩ := hrel
        by_cases hlt2 : j < k
        · have hjl : j < l.length := by rw [HN.out]; exact hlt2
          obtain ⟨b, off, ha, hblt, hw, hx0, hx1⟩ := (HC.out.below HW.out) j hjl
          subst ha
          have hst : l.drop j = l[j] :: l.drop (j + 1) := List.drop_eq_getElem_cons hjl
          have hE := HE.out
          rw [hst] at hE
          obtain ⟨x, hx⟩ : ∃ x, l[j] = x := ⟨_, rfl⟩
          rw [hx] at hw hx0 hx1 hE
          have HEx := Lib.hid hE
          clear hst hE hx HE
          have HWx := Lib.hid hw
          obtain ⟨i0, hi, hz1', hz2', hz3'⟩ := info_parts Tryd.infoIns
          obtain ⟨p, hp⟩ : ∃ p, L.length = p := ⟨_, rfl⟩
          have HPL := Lib.hid hp
          obtain ⟨va, vc, hv⟩ := ow_shape HO.out
          rw [hp] at hLj hv
          subst hv
          clear hp
          have hbd : p + 1 ≤ maxLen ∧ (p + 1) * 16 ≤ 140737488355328 := by unfold maxLen; omega
          have HO2 : Hid (wr.ownsRow (B1 + 1) 37 2 (.slice va p vc) p ((L.map insC).flatten)) := Lib.hid (by have := HO.out; unfold OwI at this; rw [HPL.out] at this; exact this)
          cases hL : isL x with
          | false =>
            have hne : (x.op != 38) = true := by unfold isL at hL; simpa using hL
            have HE2 := Lib.hid (show ((L ++ [x]) ++ (scanP l (l.drop (j + 1)) (lastL (L ++ [x])) q).1, ps ++ (scanP l (l.drop (j + 1)) (lastL (L ++ [x])) q).2) = scanP l l false 0 from by
              have := HEx.out; rw [scan_a hL] at this; rw [lastL_snoc, hL]; simpa using this)
            clear hL
            go_wp2_with (at_builtin; refine wpList_append_own _ rfl _ _ 22 rfl (B1 + 1) 37 i0 (.agg #[.int .i64 0, .int .i64 0]) 2 16 Tryd.underlying22 hi hz1' hz2' hz3' rfl (by decide) (.slice va p vc) p ((L.map insC).flatten) rfl (HO2.out.alloc _ |>.alloc _) ⟨wr.heap.size + 1, 0, none⟩ 1 1 (insC (x)) rfl rfl (news_at (by simp) (insC (x)) _) (insC_one _) hbd.1 hbd.2 (by simp <;> omega) ?_; intro v5 w5 hown5 hgrow5 _; have HQ5 := Lib.hid (ns_app HA.out HP.out HW.out HO.out (bl_two wr _ _) hgrow5 hBB HB0.out hzs); have HO5 := Lib.hid (OwI.snoc (L := L) (x := x) (by rw [HPL.out]; exact hown5)); clear hown5 hgrow5)
            have HP5 : Hid (NumIs w5 B1 (j + 1) ps) := Lib.hid (by obtain ⟨D, h1, h2⟩ := HQ5.out.2.1; exact ⟨D, h1.mono (by omega), h2⟩)
            go_roundw
            case rel => exact ⟨j + 1, L ++ [x], ps, q, by go_num, by omega, rfl, hq0, by omega, by simp [HPL.out]; omega, HQ5.out.2.2.2, HO5, Lib.hid HQ5.out.1, HP5, Lib.hid HQ5.out.2.2.1, Lib.hid (by
              intro y hy
              rcases List.mem_append.1 hy with hy | hy
              · exact HI.out y hy
              · simp at hy; subst hy; exact HWx.out), HE2⟩
            case measure => simp [intOf]; omega
          | true =>
            have hne : (x.op != 38) = false := by unfold isL at hL; simpa using hL
            cases hA : askedL l x.arg with
            | false =>
              have hlk := (HA.out.below (bl_one wr (.cells #[.int .i64 x.op, .int .i64 x.arg] 37))).look hw.2
              rw [hA, ← HB0.out] at hlk
              have HE2 := Lib.hid (by have := HEx.out; rw [scan_b hL hA] at this; exact this)
              have HA2 := Lib.hid (HA.out.below (bl_one wr (.cells #[.int .i64 x.op, .int .i64 x.arg] 37)))
              have HO3 : Hid (OwI (wr.alloc (.cells #[.int .i64 x.op, .int .i64 x.arg] 37)) (B1 + 1) (.slice va p vc) L) := Lib.hid (ow_below HO.out (bl_one wr _))
              have HP3 : Hid (NumIs (wr.alloc (.cells #[.int .i64 x.op, .int .i64 x.arg] 37)) B1 (j + 1) ps) := Lib.hid (by obtain ⟨D, h1, h2⟩ := HP.out.below (bl_one wr (.cells #[.int .i64 x.op, .int .i64 x.arg] 37)); exact ⟨D, h1.mono (by omega), h2⟩)
              have HB3 : Hid (Below w.heap.size w (wr.alloc (.cells #[.int .i64 x.op, .int .i64 x.arg] 37))) := Lib.hid (bl_a HW.out _)
              have hz3 := ow_le hzs (.cells #[.int .i64 x.op, .int .i64 x.arg] 37)
              clear hL hA
              go_wp2
              go_roundw
              case rel => exact ⟨j + 1, L, ps, q, by go_num, by omega, rfl, hq0, by omega, by rw [HPL.out]; omega, hz3, HO3, HA2, HP3, HB3, HI, HE2⟩
              case measure => simp [intOf]; omega
            | true =>
              have hlk := (HA.out.below (bl_one wr (.cells #[.int .i64 x.op, .int .i64 x.arg] 37))).look hw.2
              rw [hA, ← HB0.out] at hlk
              have hwq : Wf q := by unfold Wf; omega
              have hwq1 : Wf (q - 1) := by unfold Wf; omega
              cases hls : lastL L with
              | true =>
                have HE2 := Lib.hid (show (L ++ (scanP l (l.drop (j + 1)) (lastL L) q).1, (ps ++ [(x.arg, q - 1)]) ++ (scanP l (l.drop (j + 1)) (lastL L) q).2) = scanP l l false 0 from by
                  have := HEx.out; rw [hls, scan_c hL hA] at this; rw [hls]; simpa using this)
                have hp0 : p ≠ 0 := fun e => by rw [← HPL.out, List.length_eq_zero_iff] at e; subst e; simp [lastL] at hls
                obtain ⟨p', rfl⟩ : ∃ p', p = p' + 1 := ⟨p - 1, by omega⟩
                obtain ⟨g, cp, hg1, hg2, hg3, y, hy1, hy2⟩ := HO.out.last HPL.out (by unfold maxLen; omega)
                simp at hg1
                obtain ⟨rfl, rfl⟩ := hg1
                have hy38 : y.op = 38 := by unfold lastL at hls; rw [hy1] at hls; simpa [isL] using hls
                rw [hy38] at hy2
                obtain ⟨w6, hrun6, hn6, hg6⟩ := (HP.out.below (bl_one wr (.cells #[.int .i64 x.op, .int .i64 x.arg] 37))).update (by unfold maxLen; omega) hw.2 hwq1
                have HN6 := Lib.hid hn6
                have HG6 := Lib.hid hg6
                clear hL hA hls hy1 hn6 hg6
                have HW3 : Hid (Below w.heap.size w (wr.alloc (.cells #[.int .i64 x.op, .int .i64 x.arg] 37))) := Lib.hid (bl_a HW.out _)
                have HB6 : Hid (Below w.heap.size w w6) := Lib.hid (HW3.out.grown HG6.out HW3.out.size (fun k hk => by cases hk; have := HB0.out; omega))
                have HA6 : Hid (MetB w6 B0 k (askedL l)) := Lib.hid ((HA.out.below (bl_one wr _)).kept HG6.out (by simp; omega))
                have HO6 : Hid (OwI w6 (B1 + 1) (.slice (some ⟨g, 0, none⟩) (p' + 1) vc) L) := Lib.hid (World.ownsRow.kept (World.ownsRow.alloc HO.out _) HG6.out (by
                  right; simp [Value.ownBlock]; omega))
                have hz6 : B1 + 1 ≤ w6.heap.size := Nat.le_trans (ow_le hzs _) HG6.out.size
                go_wp2
                go_roundw
                case rel => exact ⟨j + 1, L, ps ++ [(x.arg, q - 1)], q, by go_num, by omega, rfl, hq0, by omega, by rw [HPL.out]; omega, hz6, HO6, HA6, HN6, HB6, HI, HE2⟩
                case measure => simp [intOf]; omega
              | false =>
                have HE2 := Lib.hid (show ((L ++ [⟨38, q⟩]) ++ (scanP l (l.drop (j + 1)) (lastL (L ++ [⟨38, q⟩])) (q + 1)).1, (ps ++ [(x.arg, q)]) ++ (scanP l (l.drop (j + 1)) (lastL (L ++ [⟨38, q⟩])) (q + 1)).2) = scanP l l false 0 from by
                  have := HEx.out; rw [hls, scan_d hL hA] at this; rw [lastL_snoc, isL_38]; simpa using this)
                by_cases hp0 : p = 0
                · subst hp0
                  clear hL hA hls
                  go_wp2_with (at_builtin; refine wpList_append_own _ rfl _ _ 22 rfl (B1 + 1) 37 i0 (.agg #[.int .i64 0, .int .i64 0]) 2 16 Tryd.underlying22 hi hz1' hz2' hz3' rfl (by decide) (.slice va 0 vc) 0 ((L.map insC).flatten) rfl (HO2.out.alloc _ |>.alloc _) ⟨wr.heap.size + 1, 0, none⟩ 1 1 (insC (⟨38, q⟩)) rfl rfl (news_at (by simp) (insC (⟨38, q⟩)) _) (insC_one _) hbd.1 hbd.2 (by simp <;> omega) ?_; intro v5 w5 hown5 hgrow5 _; have HQ5 := Lib.hid (ns_app HA.out HP.out HW.out HO.out (bl_two wr _ _) hgrow5 hBB HB0.out hzs); have HO5 := Lib.hid (OwI.snoc (L := L) (x := ⟨38, q⟩) (by rw [HPL.out]; exact hown5)); have kk := (BK_app HO.out hgrow5).cell 1; simp only [List.getElem?_cons_zero, List.getElem?_cons_succ] at kk; obtain ⟨w6, hrun6, hn6, hg6⟩ := HQ5.out.2.1.update (by unfold maxLen; omega) HWx.out.2 hwq; have HN6 := Lib.hid hn6; have HG6 := Lib.hid hg6; clear hn6 hg6 hown5 hgrow5)
                  have HB6 : Hid (Below w.heap.size w w6) := Lib.hid (HQ5.out.2.2.1.grown HG6.out HQ5.out.2.2.1.size (fun k hk => by cases hk; have := HB0.out; omega))
                  have HA6 : Hid (MetB w6 B0 k (askedL l)) := Lib.hid (HQ5.out.1.kept HG6.out (by simp; omega))
                  have HO6 : Hid (OwI w6 (B1 + 1) v5 (L ++ [⟨38, q⟩])) := Lib.hid (World.ownsRow.kept HO5.out HG6.out (by cases hv5 : v5.ownBlock with
                    | none => exact .inl rfl
                    | some kk => right; intro he; have := ow_lo HO5.out kk hv5; have := Option.some.inj he; omega))
                  have hz6 : B1 + 1 ≤ w6.heap.size := Nat.le_trans HQ5.out.2.2.2 HG6.out.size
                  go_roundw
                  case rel => exact ⟨j + 1, L ++ [⟨38, q⟩], ps ++ [(x.arg, q)], q + 1, by go_num, by omega, by go_num, by omega, by omega, by simp [HPL.out] <;> omega, hz6, HO6, HA6, HN6, HB6, Lib.hid (by
                    intro y hy
                    rcases List.mem_append.1 hy with hy | hy
                    · exact HI.out y hy
                    · simp at hy; subst hy; exact ⟨by unfold Wf; simp, hwq⟩), HE2⟩
                  case measure => simp [intOf]; omega
                · obtain ⟨p', rfl⟩ : ∃ p', p = p' + 1 := ⟨p - 1, by omega⟩
                  obtain ⟨g, cp, hg1, hg2, hg3, y, hy1, hy2⟩ := HO.out.last HPL.out (by unfold maxLen; omega)
                  simp at hg1
                  obtain ⟨rfl, rfl⟩ := hg1
                  have hy38 : (y.op != 38) = true := by unfold lastL at hls; rw [hy1] at hls; simpa [isL] using hls
                  clear hL hA hls hy1 hp0
                  go_wp2_with (at_builtin; refine wpList_append_own _ rfl _ _ 22 rfl (B1 + 1) 37 i0 (.agg #[.int .i64 0, .int .i64 0]) 2 16 Tryd.underlying22 hi hz1' hz2' hz3' rfl (by decide) (.slice (some ⟨g, 0, none⟩) (p' + 1) vc) (p' + 1) ((L.map insC).flatten) rfl (HO2.out.alloc _ |>.alloc _) ⟨wr.heap.size + 1, 0, none⟩ 1 1 (insC (⟨38, q⟩)) rfl rfl (news_at (by simp) (insC (⟨38, q⟩)) _) (insC_one _) hbd.1 hbd.2 (by simp <;> omega) ?_; intro v5 w5 hown5 hgrow5 _; have HQ5 := Lib.hid (ns_app HA.out HP.out HW.out HO.out (bl_two wr _ _) hgrow5 hBB HB0.out hzs); have HO5 := Lib.hid (OwI.snoc (L := L) (x := ⟨38, q⟩) (by rw [HPL.out]; exact hown5)); have kk := (BK_app HO.out hgrow5).cell 1; simp only [List.getElem?_cons_zero, List.getElem?_cons_succ] at kk; obtain ⟨w6, hrun6, hn6, hg6⟩ := HQ5.out.2.1.update (by unfold maxLen; omega) HWx.out.2 hwq; have HN6 := Lib.hid hn6; have HG6 := Lib.hid hg6; clear hn6 hg6 hown5 hgrow5)
                  have HB6 : Hid (Below w.heap.size w w6) := Lib.hid (HQ5.out.2.2.1.grown HG6.out HQ5.out.2.2.1.size (fun k hk => by cases hk; have := HB0.out; omega))
                  have HA6 : Hid (MetB w6 B0 k (askedL l)) := Lib.hid (HQ5.out.1.kept HG6.out (by simp; omega))
                  have HO6 : Hid (OwI w6 (B1 + 1) v5 (L ++ [⟨38, q⟩])) := Lib.hid (World.ownsRow.kept HO5.out HG6.out (by cases hv5 : v5.ownBlock with
                    | none => exact .inl rfl
                    | some kk => right; intro he; have := ow_lo HO5.out kk hv5; have := Option.some.inj he; omega))
                  have hz6 : B1 + 1 ≤ w6.heap.size := Nat.le_trans HQ5.out.2.2.2 HG6.out.size
                  go_roundw
                  case rel => exact ⟨j + 1, L ++ [⟨38, q⟩], ps ++ [(x.arg, q)], q + 1, by go_num, by omega, by go_num, by omega, by omega, by simp [HPL.out] <;> omega, hz6, HO6, HA6, HN6, HB6, Lib.hid (by
                    intro y hy
                    rcases List.mem_append.1 hy with hy | hy
                    · exact HI.out y hy
                    · simp at hy; subst hy; exact ⟨by unfold Wf; simp, hwq⟩), HE2⟩
                  case measure => simp [intOf]; omega
        · have hjk : j = k := by omega
          subst hjk
          have hfin : (L, ps) = scanP l l false 0 := by
            have := HE.out
            rw [List.drop_of_length_le (by rw [HN.out]; exact Nat.le_refl _)] at this
            simpa [scanP] using this
          have HNm : Hid (normP l = L.map (setJ ps)) := Lib.hid (by unfold normP; rw [← hfin])
          obtain ⟨p, hp⟩ : ∃ p, L.length = p := ⟨_, rfl⟩
          have HPL := Lib.hid hp
          obtain ⟨va, vc, hv⟩ := ow_shape HO.out
          rw [hp] at hLj hv
          subst hv
          clear hp hfin HE
          obtain ⟨wy, hwy⟩ : ∃ wy, wr = wy := ⟨_, rfl⟩
          subst hwy
          have HM0 : Hid (OwI wr (B1 + 1) (.slice va p vc) (mixL (setJ ps) L 0)) := Lib.hid (by unfold mixL; simpa using HO.out)
          go_wp2_with fail
          go_loopw [73] (fun i wz => ∃ t : Nat, i = .int .i64 t ∧ t ≤ p ∧ B1 + 1 ≤ wz.heap.size ∧ Hid (OwI wz (B1 + 1) (.slice va p vc) (mixL (setJ ps) L t)) ∧ Hid (NumIs wz B1 j ps) ∧ Hid (Below w.heap.size w wz)) (fun i _ => p - (intOf i).toNat)
          case atStart => exact ⟨0, rfl, Nat.zero_le _, hzs, HM0, HP, HW⟩
          case round =>
            obtain ⟨t, rfl, htp, hzt, HOt, HPt, HBt⟩ := hrel
            by_cases hlt3 : t < p
            · have htL : t < L.length := by rw [HPL.out]; exact hlt3
              obtain ⟨g, cp, hg1, hg2, hg3⟩ := HOt.out.shape (by rw [mix_len]; omega)
              rw [mix_len, HPL.out] at hg1
              simp at hg1
              obtain ⟨rfl, rfl⟩ := hg1
              have hmix := mix_at (setJ ps) L t htL
              obtain ⟨c0, c1, c2⟩ := HOt.out.cells (by rw [mix_len, HPL.out]) t (by rw [mix_len]; exact htL)
              rw [hmix] at c0 c1
              have hyw := HI.out L[t] (List.getElem_mem htL)
              obtain ⟨y, hy⟩ : ∃ y, L[t] = y := ⟨_, rfl⟩
              rw [hy] at c0 c1 hyw
              have HY := Lib.hid hy
              clear hmix hy
              cases hj : isJ y with
              | true =>
                have HA := Lib.hid (fun w => asksC2 y true hj w)
                have HS := Lib.hid (show (mixL (setJ ps) L t).set t ⟨((mixL (setJ ps) L t)[t]'(by rw [mix_len]; exact htL)).op, lastN ps y.arg 0⟩ = mixL (setJ ps) L (t + 1) from by
                  rw [mix_at _ _ _ htL, ← mix_set (setJ ps) L t htL, HY.out]; unfold setJ; rw [if_pos hj])
                clear hj
                go_wp2_with fail
                refine (HA.out _).mono ?_
                rintro e w1 ⟨rfl, hb1⟩
                have HB1' : Hid (Below wr.heap.size wr w1) := Lib.hid (bl_thenA (bl_a (Below.refl _ _) _) hb1)
                have hO1 := ow_below HOt.out HB1'.out
                obtain ⟨d0, d1, d2⟩ := OwI.cells hO1 (by rw [mix_len, HPL.out]) t (by rw [mix_len]; exact htL)
                have hlk := (HPt.out.below HB1'.out).look hyw.2
                have hk1 := ((BK.new wr [.int .i64 y.op, .int .i64 y.arg] 37).below hb1).cell 1
                simp only [List.getElem?_cons_zero, List.getElem?_cons_succ] at hk1
                have HO2 := Lib.hid (OwI.put hO1 (by rw [mix_len, HPL.out]) t (by rw [mix_len]; exact htL) (lastN ps y.arg 0))
                rw [HS.out] at HO2
                have HP2 : Hid (NumIs (w1.setCell ⟨g, t * 2 + 1, none⟩ (.int .i64 (lastN ps y.arg 0))) B1 j ps) := Lib.hid ((HPt.out.below HB1'.out).kept (gr_set _ _ _ _) (by simp; omega))
                have HB2 : Hid (Below w.heap.size w (w1.setCell ⟨g, t * 2 + 1, none⟩ (.int .i64 (lastN ps y.arg 0)))) := Lib.hid ((bl_thenA HBt.out HB1'.out).setCell (by have := HB0.out; show _ ≤ g; omega) _)
                have hz2 : B1 + 1 ≤ (w1.setCell ⟨g, t * 2 + 1, none⟩ (.int .i64 (lastN ps y.arg 0))).heap.size := by have := HB1'.out.size; simp [World.setCell]; omega
                clear hb1 hO1 d0
                go_wp2
                go_roundw
                case rel => exact ⟨t + 1, by go_num, by omega, hz2, HO2, HP2, HB2⟩
                case measure => simp [intOf]; omega
              | false =>
                have HA := Lib.hid (fun w => asksC2 y false hj w)
                have HS := Lib.hid (mix_skip (setJ ps) L t htL (by rw [HY.out]; unfold setJ; rw [if_neg (by simp [hj])]))
                clear hj
                go_wp2_with fail
                refine (HA.out _).mono ?_
                rintro e w1 ⟨rfl, hb1⟩
                have HB1' : Hid (Below wr.heap.size wr w1) := Lib.hid (bl_thenA (bl_a (Below.refl _ _) _) hb1)
                have HO2 := Lib.hid (ow_below HOt.out HB1'.out)
                have HP2 := Lib.hid (HPt.out.below HB1'.out)
                have HB2 := Lib.hid (bl_thenA HBt.out HB1'.out)
                have hz2 := Nat.le_trans hzt HB1'.out.size
                clear hb1
                go_wp2
                go_roundw
                case rel => exact ⟨t + 1, by go_num, by omega, hz2, by rw [HS.out]; exact HO2, HP2, HB2⟩
                case measure => simp [intOf]; omega
            · have htp2 : t = p := by omega
              subst htp2
              go_wp2
              go_ret
              refine ⟨_, rfl, ?_, HBt.out⟩
              rw [HNm.out, ← mix_end, HPL.out]
              have := HOt.out
              refine ⟨this.1, ?_⟩
              rcases this.2 with h0 | ⟨g, cap, cur, e, hbg, r⟩
              · exact .inl h0
              · exact .inr ⟨g, cap, cur, e, by have := HB0.out; omega, r⟩
end Go.Proofs.YtbcpopakdlplgaaDoor
