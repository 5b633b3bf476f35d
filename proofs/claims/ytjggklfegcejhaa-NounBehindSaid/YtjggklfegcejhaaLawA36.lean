/- Contracts of clewlaw36.may, room, awake; words that came in as an argument. -/
import Derived.Test.YtjggklfegcejhaaNewW
import Derived.Test.YtjggklfegcejhaaWRef
import Derived.Test.YtjggklfegcejhaaFits
import Derived.Test.YtjggklfegcejhaaDictCap
import Derived.Laws.Tables
import Derived.Test.YtjggklfegcejhaaNounLs
import Derived.Test.YtjggklfegcejhaaNounKey
import Derived.Test.YtjggklfegcejhaaTab
namespace Go.Proofs.Ytjggklfegcejhaa
open Go.RowKit Go.PlainAid Go.Deep
set_option linter.unusedVariables false
set_option linter.unusedSimpArgs false

/-! ### The room with two lamps -/
def rth (pa fl : Int) (rm : Bool) (wd ad : List TxC) : ThC := ⟨0, -1, pa, fl, rm, [], wd, ad, []⟩
def meW : TxC := [109, 101]
def lampW : TxC := [108, 97, 109, 112]
def brassW : TxC := [98, 114, 97, 115, 115]
def redW : TxC := [114, 101, 100]
def roomT : TbC := ⟨0, 0, 0, 0, [[120]], 4, [], [], [rth 0 0 false [] [], rth 2 0 false [meW] [], rth 0 1 true [] [], rth 2 0 false [lampW] [brassW], rth 2 0 false [lampW] [redW]], [], [], [], [], [], []⟩
def roomX (k : Nat) : TAd := ⟨some ⟨k, 0, none⟩, none, none, some ⟨k + 6, 0, none⟩, none, none, none, none, none, none, 1, 0, 0, 5, 0, 0, 0, 0, 0, 0⟩
def oneV (k : Nat) : Value := .slice (some ⟨k, 0, none⟩) 1 1
def roomR (k : Nat) : List (List Value) := [thRow (rth 0 0 false [] []) nilV nilV nilV nilV, thRow (rth 2 0 false [meW] []) nilV (oneV (k + 1)) nilV nilV, thRow (rth 0 1 true [] []) nilV nilV nilV nilV, thRow (rth 2 0 false [lampW] [brassW]) nilV (oneV (k + 2)) (oneV (k + 3)) nilV, thRow (rth 2 0 false [lampW] [redW]) nilV (oneV (k + 4)) (oneV (k + 5)) nilV]
theorem reads_nilR {α : Type} {c : Cd α} (w : World) : Reads c.sq w nilV [] := ⟨⟨_, [], rfl, ⟨SLN.nil _ _ _ _, none, 0, rfl, Nat.le_refl _⟩, rfl, fun i h => by cases h⟩, Nat.zero_le _⟩
theorem reads_oneS {w : World} {k : Nat} {s : TxC} (h : BK w k [.string ⟨s.toArray⟩] 9) (hs : s.length ≤ 1000) : Reads Cd.ss w (oneV k) [s] := by
  refine ⟨⟨_, [[.string ⟨s.toArray⟩]], rfl, ⟨⟨by show 1 ≤ maxLen; decide, (by intro r hr; simp at hr; subst hr; rfl), .inr ⟨k, 0, 1, rfl, h.lt, fun i j hi hj => ?_⟩⟩, some ⟨k, 0, none⟩, 1, rfl, Nat.le_refl _⟩, rfl, fun i a b => ?_⟩, by show 1 ≤ reachBytes; decide⟩
  · have hi0 : i = 0 := by simpa using hi
    have hj0 : j = 0 := by have : j < 1 := hj; omega
    subst hi0; subst hj0
    exact h.cell 0
  · have hi0 : i = 0 := by simpa using a
    subst hi0
    exact ⟨rfl, by show s.length ≤ maxLen; unfold maxLen; omega⟩
theorem room_is {w : World} {k : Nat} (h0 : BK w k [.string ⟨#[120]⟩] 9) (h1 : BK w (k + 1) [.string ⟨#[109, 101]⟩] 9) (h2 : BK w (k + 2) [.string ⟨#[108, 97, 109, 112]⟩] 9) (h3 : BK w (k + 3) [.string ⟨#[98, 114, 97, 115, 115]⟩] 9)
    (h4 : BK w (k + 4) [.string ⟨#[108, 97, 109, 112]⟩] 9) (h5 : BK w (k + 5) [.string ⟨#[114, 101, 100]⟩] 9) (h6 : BK w (k + 6) (roomR k).flatten 48) : TabIs w (roomX k) roomT := by
  refine ⟨reads_oneS (s := [120]) h0 (by decide), reads_nilR w, reads_nilR w, ?_, reads_nilR w, reads_nilR w, reads_nilR w, reads_nilR w, reads_nilR w, reads_nilR w, rfl, rfl, rfl, rfl, rfl⟩
  refine ⟨⟨_, roomR k, rfl, ⟨⟨by show 5 ≤ maxLen; decide, (by intro r hr; simp [roomR] at hr; rcases hr with rfl | rfl | rfl | rfl | rfl <;> rfl), .inr ⟨k + 6, 0, 5, rfl, h6.lt, fun i j hi hj => ?_⟩⟩, some ⟨k + 6, 0, none⟩, 5, rfl, by show 5 ≤ 5; decide⟩, rfl, fun i a b => ?_⟩, by show 5 ≤ reachBytes; decide⟩
  · have hi5 : i < 5 := by simpa [roomR] using hi
    have hj9 : j < 9 := hj
    show w.cell? ⟨k + 6, 0 + i * 9 + j, none⟩ = _
    rw [h6.cell, Nat.zero_add]
    match i, hi5 with
    | 0, _ | 1, _ | 2, _ | 3, _ | 4, _ => match j, hj9 with
      | 0, _ | 1, _ | 2, _ | 3, _ | 4, _ | 5, _ | 6, _ | 7, _ | 8, _ => rfl
  · have hi5 : i < 5 := by simpa [roomR] using a
    match i, hi5 with
    | 0, _ => exact ⟨_, _, _, _, rfl, reads_nilR w, reads_nilR w, reads_nilR w, reads_nilR w, rfl, rfl, rfl, rfl⟩
    | 1, _ => exact ⟨_, _, _, _, rfl, reads_nilR w, reads_oneS (s := meW) h1 (by decide), reads_nilR w, reads_nilR w, rfl, rfl, rfl, rfl⟩
    | 2, _ => exact ⟨_, _, _, _, rfl, reads_nilR w, reads_nilR w, reads_nilR w, reads_nilR w, rfl, rfl, rfl, rfl⟩
    | 3, _ => exact ⟨_, _, _, _, rfl, reads_nilR w, reads_oneS (s := lampW) h2 (by decide), reads_oneS (s := brassW) h3 (by decide), reads_nilR w, rfl, rfl, rfl, rfl⟩
    | 4, _ => exact ⟨_, _, _, _, rfl, reads_nilR w, reads_oneS (s := lampW) h4 (by decide), reads_oneS (s := redW) h5 (by decide), reads_nilR w, rfl, rfl, rfl, rfl⟩
theorem room_nest : NestW (newD roomT).pa (newD roomT).ch (newD roomT).nx 5 := by
  refine NestedP.nest ⟨fun x hx => ?_⟩
  unfold isW at hx
  have h := of_decide_eq_true hx
  obtain rfl | rfl | rfl | rfl : x = 1 ∨ x = 2 ∨ x = 3 ∨ x = 4 := by omega
  all_goals decide
theorem room_dup : ∀ x, (kidsW (newD roomT).ch (newD roomT).nx 5 x).Nodup := fun x => by
  by_cases hx : isW 5 x = true
  · unfold isW at hx
    have h := of_decide_eq_true hx
    obtain rfl | rfl | rfl | rfl : x = 1 ∨ x = 2 ∨ x = 3 ∨ x = 4 := by omega
    all_goals decide
  · unfold kidsW; rw [if_neg hx]; exact List.nodup_nil
theorem reads_ln {w : World} {a : Option Addr} {l c : Nat} {L : List Int} (h : Reads Cd.is w (.slice a l c) L) : l = L.length := by
  obtain ⟨a', c', e, _⟩ := h.q.len
  simp only [Value.slice.injEq] at e
  exact e.2.1
theorem room_ok {w : World} {q : Wv} (h : WRd w q (newD roomT)) : WOk w q (newD roomT) 5 where
  is := h.is
  len := ⟨reads_ln h.pa, reads_ln h.ch, reads_ln h.nx, by decide⟩
  l4 := reads_ln h.fl
  pos := by decide
  few := by decide
  fl := by decide
  nest := room_nest
theorem room_reach (y : Int) : (reachV (newD roomT) 5 y).length ≤ 1000000 := by
  unfold reachV
  exact Nat.le_trans (reach_len room_nest (by decide) room_dup _ _ _ _) (by decide)
/-- In a world that may be the trees are not too long. -/
theorem reach_few {t : TbC} {q : Wv} {d : WdC} {w : World} (h : RightOk t q d) (hw : WOk w q d t.th.length) (y : Int) : (reachV d t.th.length y).length ≤ 1000000 := by
  unfold reachV
  exact Nat.le_trans (reach_len hw.nest hw.pos (by have := h.nest.dup; rwa [h.h1] at this) _ _ _ _) (Nat.le_trans hw.few (by decide))
/-- What is asked of tables, a world, words. -/
structure MayOk (t : TbC) (q : Wv) (d : WdC) (ws : List TxC) : Prop where
  few : ws.length ≤ 20
  fit : FitsOk t
  rt : RightOk t q d
  wl : ∀ s ∈ ws, s.length ≤ 40
set_option maxRecDepth 100000 in
set_option maxHeartbeats 8000000 in
theorem mayC (x : TAd) (t : TbC) (q : Wv) (d : WdC) (a : Option Addr) (ws : List TxC) (c : Nat) (w : World) (ht : TabIs w x t) (hw : WRd w q d) (hws : Wds w a ws) :
    Calls Try.prog 6 #[tabV x t, worldV q, .slice a ws.length c] w (OneW (MayOk t q d ws) w) := by
  have hnew := Two.new x t q w
  obtain ⟨W0, hW0⟩ : ∃ W0, (w.alloc (.cells (tabC x t).toArray 28)).alloc (.cells (worldC q).toArray 33) = W0 := ⟨_, rfl⟩
  rw [hW0] at hnew
  have HFI := Lib.hid (fun w' (hb : Below w.heap.size w w') => refFits x t w' (ht.below hb))
  have HRI := Lib.hid (fun w' (hb : Below w.heap.size w w') (hf : FitsOk t) => refRight x t q d w' (ht.below hb) (hw.below hb) hf)
  have HWD := Lib.hid (fun w' (hb : Below w.heap.size w w') => hws.below hb)
  have HM := Lib.hid (fun (h1 : ws.length ≤ 20) (h2 : FitsOk t) (h3 : RightOk t q d) (h4 : ∀ s ∈ ws, s.length ≤ 40) => MayOk.mk h1 h2 h3 h4)
  generalize MayOk t q d ws = MO at *
  obtain ⟨m, hm⟩ : ∃ m, ws.length = m := ⟨_, rfl⟩
  have HWM := Lib.hid hm
  rw [hm]
  clear ht hw hws hm
  have HTW := Lib.hid (hnew)
  have HTWt := Lib.hid HTW.out.bt
  have HTWw := Lib.hid HTW.out.bw
  have kt0 := HTWt.out.cell 0
  have kt1 := HTWt.out.cell 1
  have kt2 := HTWt.out.cell 2
  have kt3 := HTWt.out.cell 3
  have kt4 := HTWt.out.cell 4
  have kt5 := HTWt.out.cell 5
  have kt6 := HTWt.out.cell 6
  have kt7 := HTWt.out.cell 7
  have kt8 := HTWt.out.cell 8
  have kt9 := HTWt.out.cell 9
  have kt10 := HTWt.out.cell 10
  have kt11 := HTWt.out.cell 11
  have kt12 := HTWt.out.cell 12
  have kt13 := HTWt.out.cell 13
  have kt14 := HTWt.out.cell 14
  simp only [tabC, List.getElem?_cons_zero, List.getElem?_cons_succ] at kt0 kt1 kt2 kt3 kt4 kt5 kt6 kt7 kt8 kt9 kt10 kt11 kt12 kt13 kt14
  have b0 := HTWw.out.cell 0
  have b1 := HTWw.out.cell 1
  have b2 := HTWw.out.cell 2
  have b3 := HTWw.out.cell 3
  have b4 := HTWw.out.cell 4
  have b5 := HTWw.out.cell 5
  have b6 := HTWw.out.cell 6
  have b7 := HTWw.out.cell 7
  have b8 := HTWw.out.cell 8
  have b9 := HTWw.out.cell 9
  have bA := HTWw.out.cell 10
  have bB := HTWw.out.cell 11
  have bC := HTWw.out.cell 12
  simp only [worldC, List.getElem?_cons_zero, List.getElem?_cons_succ] at b0 b1 b2 b3 b4 b5 b6 b7 b8 b9 bA bB bC
  clear hnew
  unfold tabV worldV at *
  go_enter Try.func6, Try.ntmps6
  unfold worldC at HRI hW0 ⊢
  unfold tabC at HFI HRI hW0 ⊢
  by_cases hm20 : 20 < m
  · have hm20i : (20 : Int) < (m : Int) := by omega
    go_wp2_with fail
    clear hW0
    go_ret
    exact ⟨false, rfl, fun h => Bool.noConfusion h, HTW.out.bl⟩
  · have hm20i : ¬ ((20 : Int) < (m : Int)) := by omega
    go_wp2_with fail
    clear hW0
    refine (HFI.out _ HTW.out.bl).mono ?_
    rintro e w1 ⟨bf, rfl, hbf, hb1⟩
    have HBF := Lib.hid hbf
    have hnew := HTW.out.below hb1
    clear kt0 kt1 kt2 kt3 kt4 kt5 kt6 kt7 kt8 kt9 kt10 kt11 kt12 kt13 kt14
    clear b0 b1 b2 b3 b4 b5 b6 b7 b8 b9 bA bB bC
    clear HTWt HTWw
    clear HTW
    have HTW := Lib.hid (hnew)
    have HTWt := Lib.hid HTW.out.bt
    have HTWw := Lib.hid HTW.out.bw
    have kt0 := HTWt.out.cell 0
    have kt1 := HTWt.out.cell 1
    have kt2 := HTWt.out.cell 2
    have kt3 := HTWt.out.cell 3
    have kt4 := HTWt.out.cell 4
    have kt5 := HTWt.out.cell 5
    have kt6 := HTWt.out.cell 6
    have kt7 := HTWt.out.cell 7
    have kt8 := HTWt.out.cell 8
    have kt9 := HTWt.out.cell 9
    have kt10 := HTWt.out.cell 10
    have kt11 := HTWt.out.cell 11
    have kt12 := HTWt.out.cell 12
    have kt13 := HTWt.out.cell 13
    have kt14 := HTWt.out.cell 14
    simp only [tabC, List.getElem?_cons_zero, List.getElem?_cons_succ] at kt0 kt1 kt2 kt3 kt4 kt5 kt6 kt7 kt8 kt9 kt10 kt11 kt12 kt13 kt14
    have b0 := HTWw.out.cell 0
    have b1 := HTWw.out.cell 1
    have b2 := HTWw.out.cell 2
    have b3 := HTWw.out.cell 3
    have b4 := HTWw.out.cell 4
    have b5 := HTWw.out.cell 5
    have b6 := HTWw.out.cell 6
    have b7 := HTWw.out.cell 7
    have b8 := HTWw.out.cell 8
    have b9 := HTWw.out.cell 9
    have bA := HTWw.out.cell 10
    have bB := HTWw.out.cell 11
    have bC := HTWw.out.cell 12
    simp only [worldC, List.getElem?_cons_zero, List.getElem?_cons_succ] at b0 b1 b2 b3 b4 b5 b6 b7 b8 b9 bA bB bC
    clear hnew
    clear hbf hb1
    cases bf with
    | false =>
      go_wp2_with fail
      go_ret
      exact ⟨false, rfl, fun h => Bool.noConfusion h, HTW.out.bl⟩
    | true =>
      have HF := Lib.hid (HBF.out rfl)
      go_wp2_with fail
      refine (HRI.out _ HTW.out.bl HF.out).mono ?_
      rintro e w2 ⟨br, rfl, hbr, hb2⟩
      have HBR := Lib.hid hbr
      have hnew := HTW.out.below hb2
      clear kt0 kt1 kt2 kt3 kt4 kt5 kt6 kt7 kt8 kt9 kt10 kt11 kt12 kt13 kt14
      clear b0 b1 b2 b3 b4 b5 b6 b7 b8 b9 bA bB bC
      clear HTWt HTWw
      clear HTW
      have HTW := Lib.hid (hnew)
      have HTWt := Lib.hid HTW.out.bt
      have HTWw := Lib.hid HTW.out.bw
      have kt0 := HTWt.out.cell 0
      have kt1 := HTWt.out.cell 1
      have kt2 := HTWt.out.cell 2
      have kt3 := HTWt.out.cell 3
      have kt4 := HTWt.out.cell 4
      have kt5 := HTWt.out.cell 5
      have kt6 := HTWt.out.cell 6
      have kt7 := HTWt.out.cell 7
      have kt8 := HTWt.out.cell 8
      have kt9 := HTWt.out.cell 9
      have kt10 := HTWt.out.cell 10
      have kt11 := HTWt.out.cell 11
      have kt12 := HTWt.out.cell 12
      have kt13 := HTWt.out.cell 13
      have kt14 := HTWt.out.cell 14
      simp only [tabC, List.getElem?_cons_zero, List.getElem?_cons_succ] at kt0 kt1 kt2 kt3 kt4 kt5 kt6 kt7 kt8 kt9 kt10 kt11 kt12 kt13 kt14
      have b0 := HTWw.out.cell 0
      have b1 := HTWw.out.cell 1
      have b2 := HTWw.out.cell 2
      have b3 := HTWw.out.cell 3
      have b4 := HTWw.out.cell 4
      have b5 := HTWw.out.cell 5
      have b6 := HTWw.out.cell 6
      have b7 := HTWw.out.cell 7
      have b8 := HTWw.out.cell 8
      have b9 := HTWw.out.cell 9
      have bA := HTWw.out.cell 10
      have bB := HTWw.out.cell 11
      have bC := HTWw.out.cell 12
      simp only [worldC, List.getElem?_cons_zero, List.getElem?_cons_succ] at b0 b1 b2 b3 b4 b5 b6 b7 b8 b9 bA bB bC
      clear hnew
      clear hbr hb2
      cases br with
      | false =>
        go_wp2_with fail
        go_ret
        exact ⟨false, rfl, fun h => Bool.noConfusion h, HTW.out.bl⟩
      | true =>
        have HR := Lib.hid (HBR.out rfl)
        have HB2 := Lib.hid HTW.out.bl
        clear kt0 kt1 kt2 kt3 kt4 kt5 kt6 kt7 kt8 kt9 kt10 kt11 kt12 kt13 kt14
        clear b0 b1 b2 b3 b4 b5 b6 b7 b8 b9 bA bB bC
        clear HTWt HTWw
        clear HTW HRI HFI HBF HBR
        go_wp2_with fail
        go_loop [7] (fun iv => ∃ i : Nat, iv = .int .i64 i ∧ i ≤ m ∧ Hid (∀ j (h : j < ws.length), j < i → (ws[j]).length ≤ 40)) (fun iv => m - (intOf iv).toNat)
        case atStart => exact ⟨0, rfl, Nat.zero_le _, Lib.hid (fun j _ h => by omega)⟩
        case round =>
          obtain ⟨i, rfl, hi, HI⟩ := hrel
          by_cases hlt : i < m
          · have hil : i < ws.length := by rw [HWM.out]; exact hlt
            obtain ⟨b, o, rfl, hb, hcs⟩ := (HWD.out _ HB2.out).2 (by omega)
            have hci := hcs i hil
            have HX : Hid (∀ s, ws[i] = s → s.length ≤ 40 → ∀ j (h : j < ws.length), j < i + 1 → (ws[j]).length ≤ 40) := Lib.hid (fun s e hs j hj hji => by
              by_cases e2 : j = i
              · subst e2; rw [e]; exact hs
              · exact HI.out j hj (by omega))
            obtain ⟨s, hs⟩ : ∃ s, ws[i] = s := ⟨_, rfl⟩
            rw [hs] at hci
            have HS := Lib.hid (HX.out s hs)
            clear hcs hs HX
            by_cases h40 : 40 < s.length
            · have h40i : (40 : Int) < (s.length : Int) := by omega
              go_wp2_with fail
              go_ret
              exact ⟨false, rfl, fun h => Bool.noConfusion h, HB2.out⟩
            · have HI2 := Lib.hid (HS.out (by omega))
              have h40i : ¬ ((40 : Int) < (s.length : Int)) := by omega
              go_wp2_with fail
              go_round
              case rel => exact ⟨i + 1, by go_num, by omega, HI2⟩
              case measure => simp [intOf]; omega
          · have HMO := Lib.hid (HM.out (by rw [HWM.out]; omega) HF.out HR.out (fun s hs => by
              obtain ⟨j, hj, rfl⟩ := List.getElem_of_mem hs
              exact HI.out j hj (by rw [HWM.out] at hj; omega)))
            go_wp2_with fail
            go_ret
            exact ⟨true, rfl, fun _ => HMO.out, HB2.out⟩
end Go.Proofs.Ytjggklfegcejhaa
namespace Go.Proofs.Ytjggklfegcejhaa
open Go.RowKit Go.PlainAid Go.Deep
set_option linter.unusedVariables false
set_option linter.unusedSimpArgs false

theorem bl_thenR {w W w' : World} (h : Below w.heap.size w W) (g : Below W.heap.size W w') : Below w.heap.size w w' := bl_then h g
theorem bl_sK {w x : World} {k : Nat} (h : Below w.heap.size w x) (o : Nat) (u : Value) (hk : w.heap.size ≤ k) : Below w.heap.size w (x.setCell ⟨k, o, none⟩ u) := h.setCell hk u
theorem bk_row {w : World} {g : Nat} {old cs : List Value} {T : TypeId} (h : BK w g old T) : BK (w.setRow g cs.toArray) g cs T := by
  unfold BK at *
  simp only [World.setRow, Array.getElem?_modify, h]
  simp
theorem bk_rowO {w : World} {g k : Nat} {cs : List Value} {xs : Array Value} {T : TypeId} (h : BK w k cs T) (hne : g ≠ k) : BK (w.setRow g xs) k cs T := by
  unfold BK at *
  simp only [World.setRow, Array.getElem?_modify, if_neg hne]
  exact h
theorem but_row {n0 g : Nat} {S : List Nat} {X Y : World} (h : But n0 S X Y) (hk : g ∈ S) (xs : Array Value) : But n0 S X (Y.setRow g xs) :=
  ⟨Nat.le_trans h.size (by simp [World.setRow]), fun b hb hn => by
    have hne : g ≠ b := fun e => hn (by subst e; exact hk)
    simp only [World.setRow, Array.getElem?_modify, if_neg hne]
    exact h.blk b hb hn⟩
theorem bl_row {B g : Nat} {w x : World} (h : Below B w x) (hk : B ≤ g) (xs : Array Value) : Below B w (x.setRow g xs) :=
  ⟨h.os, h.tape, h.output, Nat.le_trans h.size (by simp [World.setRow]), fun b hb => by
    have hne : g ≠ b := by omega
    simp only [World.setRow, Array.getElem?_modify, if_neg hne]
    exact h.block b hb⟩
theorem far_le {B C : Nat} {q : Wv} {d : WdC} (h : WFar C q d) (hb : B ≤ C) : WFar B q d :=
  ⟨fun b o e h0 => Nat.le_trans hb (h.f0 b o e h0), fun b o e h0 => Nat.le_trans hb (h.f1 b o e h0), fun b o e h0 => Nat.le_trans hb (h.f2 b o e h0), fun b o e h0 => Nat.le_trans hb (h.f3 b o e h0), fun b o e h0 => Nat.le_trans hb (h.f4 b o e h0), fun b o e h0 => Nat.le_trans hb (h.f5 b o e h0), fun b o e h0 => Nat.le_trans hb (h.f6 b o e h0)⟩
def zeroT : List Value := [.int .i64 0, .int .i64 0, .int .i64 0, .int .i64 0, .slice none 0 0, .int .i64 0, .slice none 0 0, .slice none 0 0, .slice none 0 0, .slice none 0 0, .slice none 0 0, .slice none 0 0, .slice none 0 0, .slice none 0 0, .slice none 0 0]
/-- Ten blocks one behind the other. -/
theorem room_blocks (w X : World) (h : ((((((((((w.alloc (.cells zeroT.toArray 28)).alloc (.cells zeroW.toArray 33)).alloc (.cells #[.string ⟨#[120]⟩] 9)).alloc (.cells #[.string ⟨#[109, 101]⟩] 9)).alloc (.cells #[.string ⟨#[108, 97, 109, 112]⟩] 9)).alloc (.cells #[.string ⟨#[98, 114, 97, 115, 115]⟩] 9)).alloc (.cells #[.string ⟨#[108, 97, 109, 112]⟩] 9)).alloc (.cells #[.string ⟨#[114, 101, 100]⟩] 9)).alloc (.cells (roomR (w.heap.size + 2)).flatten.toArray 48)).alloc (.cells (tabC (roomX (w.heap.size + 2)) roomT).toArray 28)) = X) :
    BK X (w.heap.size + 0) zeroT 28 ∧ BK X (w.heap.size + 1) zeroW 33 ∧ BK X (w.heap.size + 2) [.string ⟨#[120]⟩] 9 ∧ BK X (w.heap.size + 3) [.string ⟨#[109, 101]⟩] 9 ∧ BK X (w.heap.size + 4) [.string ⟨#[108, 97, 109, 112]⟩] 9 ∧ BK X (w.heap.size + 5) [.string ⟨#[98, 114, 97, 115, 115]⟩] 9 ∧ BK X (w.heap.size + 6) [.string ⟨#[108, 97, 109, 112]⟩] 9 ∧ BK X (w.heap.size + 7) [.string ⟨#[114, 101, 100]⟩] 9 ∧ BK X (w.heap.size + 8) (roomR (w.heap.size + 2)).flatten 48 ∧ BK X (w.heap.size + 9) (tabC (roomX (w.heap.size + 2)) roomT) 28 ∧ Below w.heap.size w X ∧ X.heap.size = w.heap.size + 10 := by
  obtain ⟨X0, e0⟩ : ∃ Y, w.alloc (.cells zeroT.toArray 28) = Y := ⟨_, rfl⟩
  obtain ⟨X1, e1⟩ : ∃ Y, X0.alloc (.cells zeroW.toArray 33) = Y := ⟨_, rfl⟩
  obtain ⟨X2, e2⟩ : ∃ Y, X1.alloc (.cells #[.string ⟨#[120]⟩] 9) = Y := ⟨_, rfl⟩
  obtain ⟨X3, e3⟩ : ∃ Y, X2.alloc (.cells #[.string ⟨#[109, 101]⟩] 9) = Y := ⟨_, rfl⟩
  obtain ⟨X4, e4⟩ : ∃ Y, X3.alloc (.cells #[.string ⟨#[108, 97, 109, 112]⟩] 9) = Y := ⟨_, rfl⟩
  obtain ⟨X5, e5⟩ : ∃ Y, X4.alloc (.cells #[.string ⟨#[98, 114, 97, 115, 115]⟩] 9) = Y := ⟨_, rfl⟩
  obtain ⟨X6, e6⟩ : ∃ Y, X5.alloc (.cells #[.string ⟨#[108, 97, 109, 112]⟩] 9) = Y := ⟨_, rfl⟩
  obtain ⟨X7, e7⟩ : ∃ Y, X6.alloc (.cells #[.string ⟨#[114, 101, 100]⟩] 9) = Y := ⟨_, rfl⟩
  obtain ⟨X8, e8⟩ : ∃ Y, X7.alloc (.cells (roomR (w.heap.size + 2)).flatten.toArray 48) = Y := ⟨_, rfl⟩
  obtain ⟨X9, e9⟩ : ∃ Y, X8.alloc (.cells (tabC (roomX (w.heap.size + 2)) roomT).toArray 28) = Y := ⟨_, rfl⟩
  rw [e0, e1, e2, e3, e4, e5, e6, e7, e8, e9] at h
  subst h
  have z0 : X0.heap.size = w.heap.size + 1 := by rw [← e0, World.size_alloc]
  have b0 : BK X0 (w.heap.size + 0) zeroT 28 := by
    have := BK.new w zeroT 28
    rw [← e0]; exact this
  have z1 : X1.heap.size = w.heap.size + 2 := by rw [← e1, World.size_alloc, z0]
  have b1 : BK X1 (w.heap.size + 1) zeroW 33 := by
    have := BK.new X0 zeroW 33
    rw [z0] at this
    rw [← e1]; exact this
  have z2 : X2.heap.size = w.heap.size + 3 := by rw [← e2, World.size_alloc, z1]
  have b2 : BK X2 (w.heap.size + 2) [.string ⟨#[120]⟩] 9 := by
    have := BK.new X1 [.string ⟨#[120]⟩] 9
    rw [z1] at this
    rw [← e2]; exact this
  have z3 : X3.heap.size = w.heap.size + 4 := by rw [← e3, World.size_alloc, z2]
  have b3 : BK X3 (w.heap.size + 3) [.string ⟨#[109, 101]⟩] 9 := by
    have := BK.new X2 [.string ⟨#[109, 101]⟩] 9
    rw [z2] at this
    rw [← e3]; exact this
  have z4 : X4.heap.size = w.heap.size + 5 := by rw [← e4, World.size_alloc, z3]
  have b4 : BK X4 (w.heap.size + 4) [.string ⟨#[108, 97, 109, 112]⟩] 9 := by
    have := BK.new X3 [.string ⟨#[108, 97, 109, 112]⟩] 9
    rw [z3] at this
    rw [← e4]; exact this
  have z5 : X5.heap.size = w.heap.size + 6 := by rw [← e5, World.size_alloc, z4]
  have b5 : BK X5 (w.heap.size + 5) [.string ⟨#[98, 114, 97, 115, 115]⟩] 9 := by
    have := BK.new X4 [.string ⟨#[98, 114, 97, 115, 115]⟩] 9
    rw [z4] at this
    rw [← e5]; exact this
  have z6 : X6.heap.size = w.heap.size + 7 := by rw [← e6, World.size_alloc, z5]
  have b6 : BK X6 (w.heap.size + 6) [.string ⟨#[108, 97, 109, 112]⟩] 9 := by
    have := BK.new X5 [.string ⟨#[108, 97, 109, 112]⟩] 9
    rw [z5] at this
    rw [← e6]; exact this
  have z7 : X7.heap.size = w.heap.size + 8 := by rw [← e7, World.size_alloc, z6]
  have b7 : BK X7 (w.heap.size + 7) [.string ⟨#[114, 101, 100]⟩] 9 := by
    have := BK.new X6 [.string ⟨#[114, 101, 100]⟩] 9
    rw [z6] at this
    rw [← e7]; exact this
  have z8 : X8.heap.size = w.heap.size + 9 := by rw [← e8, World.size_alloc, z7]
  have b8 : BK X8 (w.heap.size + 8) (roomR (w.heap.size + 2)).flatten 48 := by
    have := BK.new X7 (roomR (w.heap.size + 2)).flatten 48
    rw [z7] at this
    rw [← e8]; exact this
  have z9 : X9.heap.size = w.heap.size + 10 := by rw [← e9, World.size_alloc, z8]
  have b9 : BK X9 (w.heap.size + 9) (tabC (roomX (w.heap.size + 2)) roomT) 28 := by
    have := BK.new X8 (tabC (roomX (w.heap.size + 2)) roomT) 28
    rw [z8] at this
    rw [← e9]; exact this
  have up1 : ∀ {b : Nat} {cs : List Value} {T : TypeId}, BK X0 b cs T → BK X1 b cs T := fun h => by rw [← e1]; exact h.alloc _
  have up2 : ∀ {b : Nat} {cs : List Value} {T : TypeId}, BK X1 b cs T → BK X2 b cs T := fun h => by rw [← e2]; exact h.alloc _
  have up3 : ∀ {b : Nat} {cs : List Value} {T : TypeId}, BK X2 b cs T → BK X3 b cs T := fun h => by rw [← e3]; exact h.alloc _
  have up4 : ∀ {b : Nat} {cs : List Value} {T : TypeId}, BK X3 b cs T → BK X4 b cs T := fun h => by rw [← e4]; exact h.alloc _
  have up5 : ∀ {b : Nat} {cs : List Value} {T : TypeId}, BK X4 b cs T → BK X5 b cs T := fun h => by rw [← e5]; exact h.alloc _
  have up6 : ∀ {b : Nat} {cs : List Value} {T : TypeId}, BK X5 b cs T → BK X6 b cs T := fun h => by rw [← e6]; exact h.alloc _
  have up7 : ∀ {b : Nat} {cs : List Value} {T : TypeId}, BK X6 b cs T → BK X7 b cs T := fun h => by rw [← e7]; exact h.alloc _
  have up8 : ∀ {b : Nat} {cs : List Value} {T : TypeId}, BK X7 b cs T → BK X8 b cs T := fun h => by rw [← e8]; exact h.alloc _
  have up9 : ∀ {b : Nat} {cs : List Value} {T : TypeId}, BK X8 b cs T → BK X9 b cs T := fun h => by rw [← e9]; exact h.alloc _
  refine ⟨(up9 (up8 (up7 (up6 (up5 (up4 (up3 (up2 (up1 b0))))))))), (up9 (up8 (up7 (up6 (up5 (up4 (up3 (up2 b1)))))))), (up9 (up8 (up7 (up6 (up5 (up4 (up3 b2))))))), (up9 (up8 (up7 (up6 (up5 (up4 b3)))))), (up9 (up8 (up7 (up6 (up5 b4))))), (up9 (up8 (up7 (up6 b5)))), (up9 (up8 (up7 b6))), (up9 (up8 b7)), (up9 b8), b9, ?_, z9⟩
  rw [← e9, ← e8, ← e7, ← e6, ← e5, ← e4, ← e3, ← e2, ← e1, ← e0]
  exact bl_a (bl_a (bl_a (bl_a (bl_a (bl_a (bl_a (bl_a (bl_a (bl_a (Below.refl _ _) _) _) _) _) _) _) _) _) _) _
def roomG0 (k : Nat) : Nat → Value → Prop
  | 0, v => v = tabV (roomX k) roomT
  | 1, v => v = tabV (roomX k) roomT
  | 2, v => ∃ q, v = worldV q
  | _, _ => True
def roomGG (s : Nat) : Nat → Value → World → Prop
  | 2, v, w => ∃ q, v = worldV q ∧ WRd w q (newD roomT) ∧ WFar s q (newD roomT)
  | _, _, _ => True
theorem roomGG_keep (s : Nat) : ∀ i v w w', Below w.heap.size w w' → roomGG s i v w → roomGG s i v w'
  | 2, v, w, w', hb, ⟨q, e, h, f⟩ => ⟨q, e, h.below hb, f⟩
  | 0, _, _, _, _, _ | 1, _, _, _, _, _ => trivial
  | n + 3, _, _, _, _, _ => trivial
set_option maxRecDepth 100000 in
set_option maxHeartbeats 16000000 in
theorem roomC (w : World) : Calls Try.prog 19 #[] w fun e w' => ∃ k q, e = .returned (.tuple #[tabV (roomX k) roomT, worldV q]) ∧ TabIs w' (roomX k) roomT ∧ WRd w' q (newD roomT) ∧ Below w.heap.size w w' := by
  have HNW := Lib.hid (fun k w' (ht : TabIs w' (roomX k) roomT) => newC (roomX k) roomT w' ht (by decide) (by decide) (by decide) (by decide))
  go_enter Try.func19, Try.ntmps19
  go_wp2_with fail
  obtain ⟨W, hW⟩ : ∃ W, ((((((((((w.alloc (.cells zeroT.toArray 28)).alloc (.cells zeroW.toArray 33)).alloc (.cells #[.string ⟨#[120]⟩] 9)).alloc (.cells #[.string ⟨#[109, 101]⟩] 9)).alloc (.cells #[.string ⟨#[108, 97, 109, 112]⟩] 9)).alloc (.cells #[.string ⟨#[98, 114, 97, 115, 115]⟩] 9)).alloc (.cells #[.string ⟨#[108, 97, 109, 112]⟩] 9)).alloc (.cells #[.string ⟨#[114, 101, 100]⟩] 9)).alloc (.cells (roomR (w.heap.size + 2)).flatten.toArray 48)).alloc (.cells (tabC (roomX (w.heap.size + 2)) roomT).toArray 28)) = W := ⟨_, rfl⟩
  have HBS := Lib.hid (room_blocks w W hW)
  change Code.wp _ _ _ _ ((((((((((w.alloc (.cells zeroT.toArray 28)).alloc (.cells zeroW.toArray 33)).alloc (.cells #[.string ⟨#[120]⟩] 9)).alloc (.cells #[.string ⟨#[109, 101]⟩] 9)).alloc (.cells #[.string ⟨#[108, 97, 109, 112]⟩] 9)).alloc (.cells #[.string ⟨#[98, 114, 97, 115, 115]⟩] 9)).alloc (.cells #[.string ⟨#[108, 97, 109, 112]⟩] 9)).alloc (.cells #[.string ⟨#[114, 101, 100]⟩] 9)).alloc (.cells (roomR (w.heap.size + 2)).flatten.toArray 48)).alloc (.cells (tabC (roomX (w.heap.size + 2)) roomT).toArray 28))
  rw [hW]
  clear hW
  obtain ⟨k0, k1, k2, k3, k4, k5, k6, k7, k8, k9, kb, kz⟩ := HBS.out
  have HT9 := Lib.hid k9
  have HT0 := Lib.hid k0
  have HT1 := Lib.hid k1
  have HBL := Lib.hid kb
  have HTI : Hid (TabIs W (roomX (w.heap.size + 2)) roomT) := Lib.hid (room_is k2 k3 k4 k5 k6 k7 k8)
  clear k0 k1 k2 k3 k4 k5 k6 k7 k8 k9 kb
  have hz9 : w.heap.size + 9 < W.heap.size := by omega
  have hz0 : w.heap.size < W.heap.size := by omega
  have hz1 : w.heap.size + 1 < W.heap.size := by omega
  clear kz
  have t0 := HT9.out.cell 0
  have t1 := HT9.out.cell 1
  have t2 := HT9.out.cell 2
  have t3 := HT9.out.cell 3
  have t4 := HT9.out.cell 4
  have t5 := HT9.out.cell 5
  have t6 := HT9.out.cell 6
  have t7 := HT9.out.cell 7
  have t8 := HT9.out.cell 8
  have t9 := HT9.out.cell 9
  have t10 := HT9.out.cell 10
  have t11 := HT9.out.cell 11
  have t12 := HT9.out.cell 12
  have t13 := HT9.out.cell 13
  have t14 := HT9.out.cell 14
  simp only [tabC, roomX, roomT, List.getElem?_cons_zero, List.getElem?_cons_succ] at t0 t1 t2 t3 t4 t5 t6 t7 t8 t9 t10 t11 t12 t13 t14
  refine region_krip 3 (fun w' => Below W.heap.size W w') (roomG0 (w.heap.size + 2)) (roomGG (w.heap.size + 2)) (by kernel_rfl) (by kernel_rfl) ((Below.refl _ _).drew) (roomGG_keep _) (fun KK hKK => ?_)
  intro OPS
  simp only [List.take]
  refine' inKrip_val rfl (fun _ _ => trivial) ?_ ?_ ?_ ?_
  rotate_left 1
  · rfl
  · (intro w' hS; obtain ⟨hcc, hff⟩ := bcell hS; go_simp; first | done | with_reducible rfl | rfl)
  · (simp only [Act.put, List.setIfInBounds_toArray, List.set_cons_zero, List.set_cons_succ]; with_reducible rfl)
  refine' inKrip_val rfl (fun _ _ => trivial) ?_ ?_ ?_ ?_
  rotate_left 1
  · rfl
  · (intro w' hS; obtain ⟨hcc, hff⟩ := bcell hS; go_simp; first | done | with_reducible rfl | rfl)
  · (simp only [Act.put, List.setIfInBounds_toArray, List.set_cons_zero, List.set_cons_succ]; with_reducible rfl)
  refine inKrip_any (f := 7) (args := #[tabV (roomX (w.heap.size + 2)) roomT]) rfl ⟨worldV ⟨none, none, none, none, none, none, none, 0, 0, 0, 0, 0, 0, 0, 0, 0, 0, 0, 0, 0, 0, 0, 0, 0, 0, 0, 0⟩, _, rfl⟩ ?_ ?_ ?_ ?_
  · rfl
  · intro w' hS; go_simp
  · intro w' hS hF
    refine (HNW.out _ w' (HTI.out.below hS)).mono (fun e w'' h => ?_)
    obtain ⟨q, rfl, hq, hb, hfa⟩ := h
    exact ⟨_, rfl, ⟨q, rfl⟩, ⟨q, rfl, hq, far_le hfa (by have := hS.size; omega)⟩, hb, bl_then hS hb⟩
  intro u2 _
  simp only [Act.put, List.setIfInBounds_toArray, List.set_cons_zero, List.set_cons_succ]
  refine inKrip_nil (hKK.out _ _ (fun w1 hS hF => ?_))
  simp only [List.drop]
  have h2 : roomGG (w.heap.size + 2) 2 u2 w1 := hF 2 (by decide)
  obtain ⟨q, rfl, hq, hfa⟩ := h2
  clear hF hKK
  have HQ := Lib.hid hq
  have HFA := Lib.hid hfa
  have HS1 := Lib.hid (bl_thenR HBL.out hS)
  have HB0 := Lib.hid (HT0.out.below hS)
  have HB1 := Lib.hid (HT1.out.below hS)
  have HS := Lib.hid hS
  clear hS hq hfa HTI HNW t0 t1 t2 t3 t4 t5 t6 t7 t8 t9 t10 t11 t12 t13 t14 hz9 hz0 hz1
  refine wpList_store_row rfl _ _ _ rfl w.heap.size (tabC (roomX (w.heap.size + 2)) roomT).toArray rfl rfl 28 zeroT.toArray HB0.out (by kernel_rfl) rfl (by simp [tabC, roomX, roomT, Value.oneCell']) ?_
  refine wpList_store_row rfl _ _ _ rfl (w.heap.size + 1) (worldC q).toArray rfl rfl 33 zeroW.toArray (bk_rowO HB1.out (by omega)) (by kernel_rfl) rfl (by simp [worldC, Value.oneCell']) ?_
  generalize hWf : World.setRow (World.setRow w1 _ _) _ _ = Wf
  have HF0 : Hid (BK Wf w.heap.size (tabC (roomX (w.heap.size + 2)) roomT) 28) := Lib.hid (by rw [← hWf]; exact bk_rowO (bk_row HB0.out) (by omega))
  have HF1 : Hid (BK Wf (w.heap.size + 1) (worldC q) 33) := Lib.hid (by rw [← hWf]; exact bk_row (bk_rowO HB1.out (by omega)))
  have HBF : Hid (Below w.heap.size w Wf) := Lib.hid (by rw [← hWf]; exact bl_row (bl_row HS1.out (Nat.le_refl _) _) (Nat.le_succ _) _)
  have HWQ : Hid (WRd Wf q (newD roomT)) := Lib.hid (by
    rw [← hWf]
    exact wrd_but (S := [w.heap.size, w.heap.size + 1]) HQ.out HFA.out (but_row (but_row (But.refl _ _ _) (by simp) _) (by simp) _) (by intro b hb; simp at hb; omega))
  have HTF : Hid (TabIs Wf (roomX (w.heap.size + 2)) roomT) := Lib.hid (by
    rw [← hWf]
    obtain ⟨k0, k1, k2, k3, k4, k5, k6, k7, k8, k9, kb, kz⟩ := HBS.out
    have up : ∀ {b : Nat} {cs : List Value} {T : TypeId}, BK W b cs T → w.heap.size + 2 ≤ b → BK ((w1.setRow w.heap.size (tabC (roomX (w.heap.size + 2)) roomT).toArray).setRow (w.heap.size + 1) (worldC q).toArray) b cs T := fun h hb => bk_rowO (bk_rowO (h.below HS.out) (by omega)) (by omega)
    exact room_is (up k2 (by omega)) (up k3 (by omega)) (up k4 (by omega)) (up k5 (by omega)) (up k6 (by omega)) (up k7 (by omega)) (up k8 (by omega)))
  clear hWf
  have e0 := HF0.out.cell 0
  have e1 := HF0.out.cell 1
  have e2 := HF0.out.cell 2
  have e3 := HF0.out.cell 3
  have e4 := HF0.out.cell 4
  have e5 := HF0.out.cell 5
  have e6 := HF0.out.cell 6
  have e7 := HF0.out.cell 7
  have e8 := HF0.out.cell 8
  have e9 := HF0.out.cell 9
  have e10 := HF0.out.cell 10
  have e11 := HF0.out.cell 11
  have e12 := HF0.out.cell 12
  have e13 := HF0.out.cell 13
  have e14 := HF0.out.cell 14
  have g0 := HF1.out.cell 0
  have g1 := HF1.out.cell 1
  have g2 := HF1.out.cell 2
  have g3 := HF1.out.cell 3
  have g4 := HF1.out.cell 4
  have g5 := HF1.out.cell 5
  have g6 := HF1.out.cell 6
  have g7 := HF1.out.cell 7
  have g8 := HF1.out.cell 8
  have g9 := HF1.out.cell 9
  have g10 := HF1.out.cell 10
  have g11 := HF1.out.cell 11
  have g12 := HF1.out.cell 12
  simp only [tabC, roomX, roomT, List.getElem?_cons_zero, List.getElem?_cons_succ] at e0 e1 e2 e3 e4 e5 e6 e7 e8 e9 e10 e11 e12 e13 e14
  simp only [worldC, List.getElem?_cons_zero, List.getElem?_cons_succ] at g0 g1 g2 g3 g4 g5 g6 g7 g8 g9 g10 g11 g12
  have hz0' : w.heap.size < Wf.heap.size := HF0.out.lt
  have hz1' : w.heap.size + 1 < Wf.heap.size := HF1.out.lt
  go_wp2_with fail
  refine bodyPost_ret (v := .tuple #[tabV (roomX (w.heap.size + 2)) roomT, worldV q]) ?_ rfl ⟨_, _, rfl, HTF.out, HWQ.out, HBF.out⟩
  simp [results, Try.results19, go_sem, e0, e1, e2, e3, e4, e5, e6, e7, e8, e9, e10, e11, e12, e13, e14, g0, g1, g2, g3, g4, g5, g6, g7, g8, g9, g10, g11, g12, tabV, tabC, roomX, roomT, worldV, worldC]
end Go.Proofs.Ytjggklfegcejhaa
namespace Go.Proofs.Ytjggklfegcejhaa
open Go.RowKit Go.PlainAid Go.Deep
set_option linter.unusedVariables false
set_option linter.unusedSimpArgs false

theorem one_noit {t : TbC} {seen : List Int} {sit : Bool} {it : Int} {ks : List TxC} (h : itK ∉ ks) : oneN t seen sit it ks = oneN t seen false 0 ks := by
  unfold oneN
  cases hd : ks.drop (artN ks) with
  | nil => rfl
  | cons k r =>
    have hk : k ≠ itK := fun e => h (by
      have : k ∈ ks.drop (artN ks) := by rw [hd]; simp
      rw [← e]; exact List.mem_of_mem_drop this)
    simp only [if_neg hk]
theorem list_noit {one1 one2 : List TxC → Int × Nat × Int} {ks : List TxC} (ho : ∀ l, itK ∉ l → one1 l = one2 l) (h : itK ∉ ks) : ∀ (f u : Nat) (l : List Int), listN one1 ks f u l = listN one2 ks f u l
  | 0, _, _ => rfl
  | f + 1, u, l => by
    have h1 := ho (ks.drop u) (fun hm => h (List.mem_of_mem_drop hm))
    simp only [listN, h1, list_noit ho h f]
theorem many_noit {one1 one2 : List TxC → Int × Nat × Int} (ho : ∀ l, itK ∉ l → one1 l = one2 l) {vis car : List Int} {ks : List TxC} (h : itK ∉ ks) : manyN one1 vis car ks = manyN one2 vis car ks := by
  cases ks with
  | nil => simp only [manyN, list_noit ho h]
  | cons k r =>
    cases r with
    | nil => simp only [manyN, list_noit ho h]
    | cons b q =>
      have hq : itK ∉ q := fun hm => h (List.mem_cons_of_mem _ (List.mem_cons_of_mem _ hm))
      simp only [manyN, list_noit ho h, list_noit ho hq]
instance : DecidableEq PhC := fun a b => if h : a.th = b.th ∧ a.us = b.us ∧ a.er = b.er then .isTrue (by cases a; cases b; simp only at h; obtain ⟨rfl, rfl, rfl⟩ := h; rfl) else .isFalse (fun e => h (by subst e; exact ⟨rfl, rfl, rfl⟩))
/-- What one thing the room's words mean. -/
def roomO : List TxC → Int × Nat × Int := oneN roomT (seenTo (seesN (newD roomT) 5) 5) false 0
theorem roomO_eq (q : Wv) {ks : List TxC} (h : itK ∉ ks) : oneW roomT q (newD roomT) ks = roomO ks := one_noit h
def theW : TxC := [116, 104, 101]
def boxW : TxC := [98, 111, 120]
def aebl : List TxC := [[97, 108, 108], [101, 120, 99, 101, 112, 116], brassW, lampW]
theorem room_a (q : Wv) : parseN (oneW roomT q (newD roomT)) (visN (newD roomT) 5) (reachV (newD roomT) 5 1) (aebl.map keyW) true = ⟨[4], 4, 0⟩ := by
  unfold parseN
  rw [if_pos rfl]
  rw [many_noit (one2 := roomO) (fun l hl => roomO_eq q hl) (by decide)]
  decide +kernel
theorem room_1 (q : Wv) : itemN (oneW roomT q (newD roomT) ([brassW, lampW].map keyW)) = ⟨[3], 2, 0⟩ := by
  rw [roomO_eq q (by decide)]; decide +kernel
theorem room_2 (q : Wv) : (itemN (oneW roomT q (newD roomT) ([lampW].map keyW))) = ⟨[], 1, 10⟩ := by
  rw [roomO_eq q (by decide)]; decide +kernel
theorem room_3 (q : Wv) : (itemN (oneW roomT q (newD roomT) ([theW].map keyW))) = ⟨[], 0, 2⟩ := by
  rw [roomO_eq q (by decide)]; decide +kernel
theorem room_4 (q : Wv) : (itemN (oneW roomT q (newD roomT) ([boxW].map keyW))) = ⟨[], 0, 11⟩ := by
  rw [roomO_eq q (by decide)]; decide +kernel
theorem field_er (p : Option Addr) (n c : Nat) (u e : Int) (w : World) : (Instr.field 40 (.agg #[.slice p n c, .int .i64 u, .int .i64 e]) 2).run Try.prog w = .ok (.int .i64 e) w := by kernel_rfl
theorem ints_one (W : World) (m : Int) : Ints (W.alloc (.cells #[.int .i64 m] 3)) (.slice (some ⟨W.heap.size, 0, none⟩) 1 1) [m] :=
  ⟨_, 1, rfl, by show 1 ≤ maxLen; decide, fun _ => ⟨W.heap.size, 0, rfl, by rw [World.size_alloc]; omega, fun i hi => by
    have h0 : i = 0 := by simpa using hi
    subst h0
    exact (BK.new W [.int .i64 m] 3).cell 0⟩⟩
set_option maxRecDepth 100000 in
set_option maxHeartbeats 16000000 in
theorem awake36 (w : World) : Calls Try.prog 8 #[] w fun e w' => e = .returned (.bool true) ∧ Below w.heap.size w w' := by
  have HSM := Lib.hid (fun (m u : Int) (n : Nat) (W : World) (p : Option Addr) (c : Nat) (h : Ints W (.slice p 1 c) [m]) => by
    have := same36 ⟨[m], n, 0⟩ ⟨[m], n, 0⟩ p (some ⟨W.heap.size, 0, none⟩) c 1 (W.alloc (.cells #[.int .i64 m] 3)) (h.below (bl_a (Below.refl _ _) _)) (ints_one W m)
    rw [sameP_self] at this
    exact this)
  go_enter Try.func8, Try.ntmps8
  go_wp2_with fail
  refine (roomC _).mono ?_
  rintro e w1 ⟨k, q, rfl, ht, hw, hb1⟩
  have hok := room_ok hw
  have hnew := Two.new (roomX k) roomT q w1
  have HPA := Lib.hid (fun W (hb : Below w1.heap.size w1 W) => by
    have := parseC (roomX k) roomT q (newD roomT) (some ⟨W.heap.size, 0, none⟩) aebl 4 true (W.alloc (.cells (aebl.map strC).toArray 9)) (ht.below (bl_a hb _)) (hok.below (bl_a hb _)) room_reach (wds_lit W _ _ (by decide)) (by decide) (by decide)
    rw [show roomT.th.length = 5 from rfl, room_a q] at this
    exact this)
  have HPA : Hid (∀ W, Below w1.heap.size w1 W → Calls Try.prog 11 #[tabV (roomX k) roomT, worldV q, .slice (some ⟨W.heap.size, 0, none⟩) 4 4, .bool true] (W.alloc (.cells #[.string ⟨#[97, 108, 108]⟩, .string ⟨#[101, 120, 99, 101, 112, 116]⟩, .string ⟨#[98, 114, 97, 115, 115]⟩, .string ⟨#[108, 97, 109, 112]⟩] 9)) (RetPh (W.alloc (.cells #[.string ⟨#[97, 108, 108]⟩, .string ⟨#[101, 120, 99, 101, 112, 116]⟩, .string ⟨#[98, 114, 97, 115, 115]⟩, .string ⟨#[108, 97, 109, 112]⟩] 9)) ⟨[4], 4, 0⟩)) := HPA
  have HI1 := Lib.hid (fun W (hb : Below w1.heap.size w1 W) => by
    have := itemC (roomX k) roomT q (newD roomT) (some ⟨W.heap.size, 0, none⟩) [brassW, lampW] 2 (W.alloc (.cells ([brassW, lampW].map strC).toArray 9)) (ht.below (bl_a hb _)) (hok.below (bl_a hb _)) room_reach (wds_lit W _ _ (by decide)) (by decide) (by decide)
    rw [room_1 q] at this
    exact this)
  have HI1 : Hid (∀ W, Below w1.heap.size w1 W → Calls Try.prog 20 #[tabV (roomX k) roomT, worldV q, .slice (some ⟨W.heap.size, 0, none⟩) 2 2] (W.alloc (.cells #[.string ⟨#[98, 114, 97, 115, 115]⟩, .string ⟨#[108, 97, 109, 112]⟩] 9)) (RetPh (W.alloc (.cells #[.string ⟨#[98, 114, 97, 115, 115]⟩, .string ⟨#[108, 97, 109, 112]⟩] 9)) ⟨[3], 2, 0⟩)) := HI1
  have HI2 := Lib.hid (fun W (hb : Below w1.heap.size w1 W) => by
    have := itemC (roomX k) roomT q (newD roomT) (some ⟨W.heap.size, 0, none⟩) [lampW] 1 (W.alloc (.cells ([lampW].map strC).toArray 9)) (ht.below (bl_a hb _)) (hok.below (bl_a hb _)) room_reach (wds_lit W _ _ (by decide)) (by decide) (by decide)
    rw [room_2 q] at this
    exact this)
  have HI2 : Hid (∀ W, Below w1.heap.size w1 W → Calls Try.prog 20 #[tabV (roomX k) roomT, worldV q, .slice (some ⟨W.heap.size, 0, none⟩) 1 1] (W.alloc (.cells #[.string ⟨#[108, 97, 109, 112]⟩] 9)) (RetPh (W.alloc (.cells #[.string ⟨#[108, 97, 109, 112]⟩] 9)) ⟨[], 1, 10⟩)) := HI2
  have HI3 := Lib.hid (fun W (hb : Below w1.heap.size w1 W) => by
    have := itemC (roomX k) roomT q (newD roomT) (some ⟨W.heap.size, 0, none⟩) [theW] 1 (W.alloc (.cells ([theW].map strC).toArray 9)) (ht.below (bl_a hb _)) (hok.below (bl_a hb _)) room_reach (wds_lit W _ _ (by decide)) (by decide) (by decide)
    rw [room_3 q] at this
    exact this)
  have HI3 : Hid (∀ W, Below w1.heap.size w1 W → Calls Try.prog 20 #[tabV (roomX k) roomT, worldV q, .slice (some ⟨W.heap.size, 0, none⟩) 1 1] (W.alloc (.cells #[.string ⟨#[116, 104, 101]⟩] 9)) (RetPh (W.alloc (.cells #[.string ⟨#[116, 104, 101]⟩] 9)) ⟨[], 0, 2⟩)) := HI3
  have HI4 := Lib.hid (fun W (hb : Below w1.heap.size w1 W) => by
    have := itemC (roomX k) roomT q (newD roomT) (some ⟨W.heap.size, 0, none⟩) [boxW] 1 (W.alloc (.cells ([boxW].map strC).toArray 9)) (ht.below (bl_a hb _)) (hok.below (bl_a hb _)) room_reach (wds_lit W _ _ (by decide)) (by decide) (by decide)
    rw [room_4 q] at this
    exact this)
  have HI4 : Hid (∀ W, Below w1.heap.size w1 W → Calls Try.prog 20 #[tabV (roomX k) roomT, worldV q, .slice (some ⟨W.heap.size, 0, none⟩) 1 1] (W.alloc (.cells #[.string ⟨#[98, 111, 120]⟩] 9)) (RetPh (W.alloc (.cells #[.string ⟨#[98, 111, 120]⟩] 9)) ⟨[], 0, 11⟩)) := HI4
  clear ht hw hok
  generalize roomX k = x at *
  generalize roomT = t at *
  obtain ⟨W0, hW0⟩ : ∃ W0, (w1.alloc (.cells (tabC x t).toArray 28)).alloc (.cells (worldC q).toArray 33) = W0 := ⟨_, rfl⟩
  rw [hW0] at hnew
  have HB1 := Lib.hid hb1
  clear hb1
  have HTW := Lib.hid (hnew)
  have HTWt := Lib.hid HTW.out.bt
  have HTWw := Lib.hid HTW.out.bw
  have kt0 := HTWt.out.cell 0
  have kt1 := HTWt.out.cell 1
  have kt2 := HTWt.out.cell 2
  have kt3 := HTWt.out.cell 3
  have kt4 := HTWt.out.cell 4
  have kt5 := HTWt.out.cell 5
  have kt6 := HTWt.out.cell 6
  have kt7 := HTWt.out.cell 7
  have kt8 := HTWt.out.cell 8
  have kt9 := HTWt.out.cell 9
  have kt10 := HTWt.out.cell 10
  have kt11 := HTWt.out.cell 11
  have kt12 := HTWt.out.cell 12
  have kt13 := HTWt.out.cell 13
  have kt14 := HTWt.out.cell 14
  simp only [tabC, List.getElem?_cons_zero, List.getElem?_cons_succ] at kt0 kt1 kt2 kt3 kt4 kt5 kt6 kt7 kt8 kt9 kt10 kt11 kt12 kt13 kt14
  have b0 := HTWw.out.cell 0
  have b1 := HTWw.out.cell 1
  have b2 := HTWw.out.cell 2
  have b3 := HTWw.out.cell 3
  have b4 := HTWw.out.cell 4
  have b5 := HTWw.out.cell 5
  have b6 := HTWw.out.cell 6
  have b7 := HTWw.out.cell 7
  have b8 := HTWw.out.cell 8
  have b9 := HTWw.out.cell 9
  have bA := HTWw.out.cell 10
  have bB := HTWw.out.cell 11
  have bC := HTWw.out.cell 12
  simp only [worldC, List.getElem?_cons_zero, List.getElem?_cons_succ] at b0 b1 b2 b3 b4 b5 b6 b7 b8 b9 bA bB bC
  clear hnew
  unfold tabV worldV at *
  unfold worldC at HPA HI1 HI2 HI3 HI4 hW0 ⊢
  unfold tabC at HPA HI1 HI2 HI3 HI4 hW0 ⊢
  go_wp2_with fail
  clear hW0
  refine (HPA.out _ HTW.out.bl).mono ?_
  rintro e w2 ⟨pa, pc, rfl, hI, hb2, _⟩
  have hnew := HTW.out.below (bl_then (bl_a (Below.refl _ _) _) hb2)
  clear kt0 kt1 kt2 kt3 kt4 kt5 kt6 kt7 kt8 kt9 kt10 kt11 kt12 kt13 kt14
  clear b0 b1 b2 b3 b4 b5 b6 b7 b8 b9 bA bB bC
  clear HTWt HTWw
  clear HTW
  have HTW := Lib.hid (hnew)
  have HTWt := Lib.hid HTW.out.bt
  have HTWw := Lib.hid HTW.out.bw
  have kt0 := HTWt.out.cell 0
  have kt1 := HTWt.out.cell 1
  have kt2 := HTWt.out.cell 2
  have kt3 := HTWt.out.cell 3
  have kt4 := HTWt.out.cell 4
  have kt5 := HTWt.out.cell 5
  have kt6 := HTWt.out.cell 6
  have kt7 := HTWt.out.cell 7
  have kt8 := HTWt.out.cell 8
  have kt9 := HTWt.out.cell 9
  have kt10 := HTWt.out.cell 10
  have kt11 := HTWt.out.cell 11
  have kt12 := HTWt.out.cell 12
  have kt13 := HTWt.out.cell 13
  have kt14 := HTWt.out.cell 14
  simp only [tabC, List.getElem?_cons_zero, List.getElem?_cons_succ] at kt0 kt1 kt2 kt3 kt4 kt5 kt6 kt7 kt8 kt9 kt10 kt11 kt12 kt13 kt14
  have b0 := HTWw.out.cell 0
  have b1 := HTWw.out.cell 1
  have b2 := HTWw.out.cell 2
  have b3 := HTWw.out.cell 3
  have b4 := HTWw.out.cell 4
  have b5 := HTWw.out.cell 5
  have b6 := HTWw.out.cell 6
  have b7 := HTWw.out.cell 7
  have b8 := HTWw.out.cell 8
  have b9 := HTWw.out.cell 9
  have bA := HTWw.out.cell 10
  have bB := HTWw.out.cell 11
  have bC := HTWw.out.cell 12
  simp only [worldC, List.getElem?_cons_zero, List.getElem?_cons_succ] at b0 b1 b2 b3 b4 b5 b6 b7 b8 b9 bA bB bC
  clear hnew
  dsimp only [List.length_cons, List.length_nil] at hI ⊢
  have HIA := Lib.hid hI
  clear hI hb2
  go_upto_region 3 with (fail)
  generalize hW3 : World.alloc w2 _ = W3
  have HPB : Hid (BK W3 w2.heap.size [.slice pa 1 pc, .int .i64 4, .int .i64 0] 40) := Lib.hid (by rw [← hW3]; exact BK.new _ _ _)
  have hb3 : Below w2.heap.size w2 W3 := by rw [← hW3]; exact bl_a (Below.refl _ _) _
  have HIA3 := Lib.hid (HIA.out.below hb3)
  have hnew := HTW.out.below hb3
  clear kt0 kt1 kt2 kt3 kt4 kt5 kt6 kt7 kt8 kt9 kt10 kt11 kt12 kt13 kt14
  clear b0 b1 b2 b3 b4 b5 b6 b7 b8 b9 bA bB bC
  clear HTWt HTWw
  clear HTW
  have HTW := Lib.hid (hnew)
  have HTWt := Lib.hid HTW.out.bt
  have HTWw := Lib.hid HTW.out.bw
  have kt0 := HTWt.out.cell 0
  have kt1 := HTWt.out.cell 1
  have kt2 := HTWt.out.cell 2
  have kt3 := HTWt.out.cell 3
  have kt4 := HTWt.out.cell 4
  have kt5 := HTWt.out.cell 5
  have kt6 := HTWt.out.cell 6
  have kt7 := HTWt.out.cell 7
  have kt8 := HTWt.out.cell 8
  have kt9 := HTWt.out.cell 9
  have kt10 := HTWt.out.cell 10
  have kt11 := HTWt.out.cell 11
  have kt12 := HTWt.out.cell 12
  have kt13 := HTWt.out.cell 13
  have kt14 := HTWt.out.cell 14
  simp only [tabC, List.getElem?_cons_zero, List.getElem?_cons_succ] at kt0 kt1 kt2 kt3 kt4 kt5 kt6 kt7 kt8 kt9 kt10 kt11 kt12 kt13 kt14
  have b0 := HTWw.out.cell 0
  have b1 := HTWw.out.cell 1
  have b2 := HTWw.out.cell 2
  have b3 := HTWw.out.cell 3
  have b4 := HTWw.out.cell 4
  have b5 := HTWw.out.cell 5
  have b6 := HTWw.out.cell 6
  have b7 := HTWw.out.cell 7
  have b8 := HTWw.out.cell 8
  have b9 := HTWw.out.cell 9
  have bA := HTWw.out.cell 10
  have bB := HTWw.out.cell 11
  have bC := HTWw.out.cell 12
  simp only [worldC, List.getElem?_cons_zero, List.getElem?_cons_succ] at b0 b1 b2 b3 b4 b5 b6 b7 b8 b9 bA bB bC
  clear hnew
  clear hW3 hb3 HIA
  go_wp2_with fail
  refine (HI1.out _ HTW.out.bl).mono ?_
  rintro e w4 ⟨p4, c4, rfl, hI4, hb4, _⟩
  have HPB4 := Lib.hid (HPB.out.below (bl_then (bl_a (Below.refl _ _) _) hb4))
  have HIA4 := Lib.hid (HIA3.out.below (bl_then (bl_a (Below.refl _ _) _) hb4))
  have hnew := HTW.out.below (bl_then (bl_a (Below.refl _ _) _) hb4)
  clear kt0 kt1 kt2 kt3 kt4 kt5 kt6 kt7 kt8 kt9 kt10 kt11 kt12 kt13 kt14
  clear b0 b1 b2 b3 b4 b5 b6 b7 b8 b9 bA bB bC
  clear HTWt HTWw
  clear HTW
  have HTW := Lib.hid (hnew)
  have HTWt := Lib.hid HTW.out.bt
  have HTWw := Lib.hid HTW.out.bw
  have kt0 := HTWt.out.cell 0
  have kt1 := HTWt.out.cell 1
  have kt2 := HTWt.out.cell 2
  have kt3 := HTWt.out.cell 3
  have kt4 := HTWt.out.cell 4
  have kt5 := HTWt.out.cell 5
  have kt6 := HTWt.out.cell 6
  have kt7 := HTWt.out.cell 7
  have kt8 := HTWt.out.cell 8
  have kt9 := HTWt.out.cell 9
  have kt10 := HTWt.out.cell 10
  have kt11 := HTWt.out.cell 11
  have kt12 := HTWt.out.cell 12
  have kt13 := HTWt.out.cell 13
  have kt14 := HTWt.out.cell 14
  simp only [tabC, List.getElem?_cons_zero, List.getElem?_cons_succ] at kt0 kt1 kt2 kt3 kt4 kt5 kt6 kt7 kt8 kt9 kt10 kt11 kt12 kt13 kt14
  have b0 := HTWw.out.cell 0
  have b1 := HTWw.out.cell 1
  have b2 := HTWw.out.cell 2
  have b3 := HTWw.out.cell 3
  have b4 := HTWw.out.cell 4
  have b5 := HTWw.out.cell 5
  have b6 := HTWw.out.cell 6
  have b7 := HTWw.out.cell 7
  have b8 := HTWw.out.cell 8
  have b9 := HTWw.out.cell 9
  have bA := HTWw.out.cell 10
  have bB := HTWw.out.cell 11
  have bC := HTWw.out.cell 12
  simp only [worldC, List.getElem?_cons_zero, List.getElem?_cons_succ] at b0 b1 b2 b3 b4 b5 b6 b7 b8 b9 bA bB bC
  clear hnew
  dsimp only [List.length_cons, List.length_nil] at hI4 ⊢
  have HS4 := Lib.hid (HSM.out 3 0 2 w4 p4 c4 hI4)
  clear hI4 hb4 HPB HIA3
  go_wp2_with fail
  refine HS4.out.mono ?_
  rintro e w5 ⟨rfl, hb5⟩
  have HPB5 := Lib.hid (HPB4.out.below (bl_then (bl_a (Below.refl _ _) _) hb5))
  have HIA5 := Lib.hid (HIA4.out.below (bl_then (bl_a (Below.refl _ _) _) hb5))
  have hnew := HTW.out.below (bl_then (bl_a (Below.refl _ _) _) hb5)
  clear kt0 kt1 kt2 kt3 kt4 kt5 kt6 kt7 kt8 kt9 kt10 kt11 kt12 kt13 kt14
  clear b0 b1 b2 b3 b4 b5 b6 b7 b8 b9 bA bB bC
  clear HTWt HTWw
  clear HTW
  have HTW := Lib.hid (hnew)
  have HTWt := Lib.hid HTW.out.bt
  have HTWw := Lib.hid HTW.out.bw
  have kt0 := HTWt.out.cell 0
  have kt1 := HTWt.out.cell 1
  have kt2 := HTWt.out.cell 2
  have kt3 := HTWt.out.cell 3
  have kt4 := HTWt.out.cell 4
  have kt5 := HTWt.out.cell 5
  have kt6 := HTWt.out.cell 6
  have kt7 := HTWt.out.cell 7
  have kt8 := HTWt.out.cell 8
  have kt9 := HTWt.out.cell 9
  have kt10 := HTWt.out.cell 10
  have kt11 := HTWt.out.cell 11
  have kt12 := HTWt.out.cell 12
  have kt13 := HTWt.out.cell 13
  have kt14 := HTWt.out.cell 14
  simp only [tabC, List.getElem?_cons_zero, List.getElem?_cons_succ] at kt0 kt1 kt2 kt3 kt4 kt5 kt6 kt7 kt8 kt9 kt10 kt11 kt12 kt13 kt14
  have b0 := HTWw.out.cell 0
  have b1 := HTWw.out.cell 1
  have b2 := HTWw.out.cell 2
  have b3 := HTWw.out.cell 3
  have b4 := HTWw.out.cell 4
  have b5 := HTWw.out.cell 5
  have b6 := HTWw.out.cell 6
  have b7 := HTWw.out.cell 7
  have b8 := HTWw.out.cell 8
  have b9 := HTWw.out.cell 9
  have bA := HTWw.out.cell 10
  have bB := HTWw.out.cell 11
  have bC := HTWw.out.cell 12
  simp only [worldC, List.getElem?_cons_zero, List.getElem?_cons_succ] at b0 b1 b2 b3 b4 b5 b6 b7 b8 b9 bA bB bC
  clear hnew
  clear hb5 HPB4 HIA4 HS4
  have hfd := fun (p : Option Addr) (n c : Nat) (u e : Int) (w : World) => field_er p n c u e w
  go_wp2_with fail
  refine (HI2.out _ HTW.out.bl).mono ?_
  rintro e w6 ⟨p6, c6, rfl, _, hb6, _⟩
  have HPB6 := Lib.hid (HPB5.out.below (bl_then (bl_a (Below.refl _ _) _) hb6))
  have HIA6 := Lib.hid (HIA5.out.below (bl_then (bl_a (Below.refl _ _) _) hb6))
  have hnew := HTW.out.below (bl_then (bl_a (Below.refl _ _) _) hb6)
  clear kt0 kt1 kt2 kt3 kt4 kt5 kt6 kt7 kt8 kt9 kt10 kt11 kt12 kt13 kt14
  clear b0 b1 b2 b3 b4 b5 b6 b7 b8 b9 bA bB bC
  clear HTWt HTWw
  clear HTW
  have HTW := Lib.hid (hnew)
  have HTWt := Lib.hid HTW.out.bt
  have HTWw := Lib.hid HTW.out.bw
  have kt0 := HTWt.out.cell 0
  have kt1 := HTWt.out.cell 1
  have kt2 := HTWt.out.cell 2
  have kt3 := HTWt.out.cell 3
  have kt4 := HTWt.out.cell 4
  have kt5 := HTWt.out.cell 5
  have kt6 := HTWt.out.cell 6
  have kt7 := HTWt.out.cell 7
  have kt8 := HTWt.out.cell 8
  have kt9 := HTWt.out.cell 9
  have kt10 := HTWt.out.cell 10
  have kt11 := HTWt.out.cell 11
  have kt12 := HTWt.out.cell 12
  have kt13 := HTWt.out.cell 13
  have kt14 := HTWt.out.cell 14
  simp only [tabC, List.getElem?_cons_zero, List.getElem?_cons_succ] at kt0 kt1 kt2 kt3 kt4 kt5 kt6 kt7 kt8 kt9 kt10 kt11 kt12 kt13 kt14
  have b0 := HTWw.out.cell 0
  have b1 := HTWw.out.cell 1
  have b2 := HTWw.out.cell 2
  have b3 := HTWw.out.cell 3
  have b4 := HTWw.out.cell 4
  have b5 := HTWw.out.cell 5
  have b6 := HTWw.out.cell 6
  have b7 := HTWw.out.cell 7
  have b8 := HTWw.out.cell 8
  have b9 := HTWw.out.cell 9
  have bA := HTWw.out.cell 10
  have bB := HTWw.out.cell 11
  have bC := HTWw.out.cell 12
  simp only [worldC, List.getElem?_cons_zero, List.getElem?_cons_succ] at b0 b1 b2 b3 b4 b5 b6 b7 b8 b9 bA bB bC
  clear hnew
  dsimp only [List.length_nil]
  clear hb6 HPB5 HIA5
  go_wp2_with fail
  refine (HI3.out _ HTW.out.bl).mono ?_
  rintro e w7 ⟨p7, c7, rfl, _, hb7, _⟩
  have HPB7 := Lib.hid (HPB6.out.below (bl_then (bl_a (Below.refl _ _) _) hb7))
  have HIA7 := Lib.hid (HIA6.out.below (bl_then (bl_a (Below.refl _ _) _) hb7))
  have hnew := HTW.out.below (bl_then (bl_a (Below.refl _ _) _) hb7)
  clear kt0 kt1 kt2 kt3 kt4 kt5 kt6 kt7 kt8 kt9 kt10 kt11 kt12 kt13 kt14
  clear b0 b1 b2 b3 b4 b5 b6 b7 b8 b9 bA bB bC
  clear HTWt HTWw
  clear HTW
  have HTW := Lib.hid (hnew)
  have HTWt := Lib.hid HTW.out.bt
  have HTWw := Lib.hid HTW.out.bw
  have kt0 := HTWt.out.cell 0
  have kt1 := HTWt.out.cell 1
  have kt2 := HTWt.out.cell 2
  have kt3 := HTWt.out.cell 3
  have kt4 := HTWt.out.cell 4
  have kt5 := HTWt.out.cell 5
  have kt6 := HTWt.out.cell 6
  have kt7 := HTWt.out.cell 7
  have kt8 := HTWt.out.cell 8
  have kt9 := HTWt.out.cell 9
  have kt10 := HTWt.out.cell 10
  have kt11 := HTWt.out.cell 11
  have kt12 := HTWt.out.cell 12
  have kt13 := HTWt.out.cell 13
  have kt14 := HTWt.out.cell 14
  simp only [tabC, List.getElem?_cons_zero, List.getElem?_cons_succ] at kt0 kt1 kt2 kt3 kt4 kt5 kt6 kt7 kt8 kt9 kt10 kt11 kt12 kt13 kt14
  have b0 := HTWw.out.cell 0
  have b1 := HTWw.out.cell 1
  have b2 := HTWw.out.cell 2
  have b3 := HTWw.out.cell 3
  have b4 := HTWw.out.cell 4
  have b5 := HTWw.out.cell 5
  have b6 := HTWw.out.cell 6
  have b7 := HTWw.out.cell 7
  have b8 := HTWw.out.cell 8
  have b9 := HTWw.out.cell 9
  have bA := HTWw.out.cell 10
  have bB := HTWw.out.cell 11
  have bC := HTWw.out.cell 12
  simp only [worldC, List.getElem?_cons_zero, List.getElem?_cons_succ] at b0 b1 b2 b3 b4 b5 b6 b7 b8 b9 bA bB bC
  clear hnew
  dsimp only [List.length_nil]
  clear hb7 HPB6 HIA6
  go_wp2_with fail
  refine (HI4.out _ HTW.out.bl).mono ?_
  rintro e w8 ⟨p8, c8, rfl, _, hb8, _⟩
  have HPB8 := Lib.hid (HPB7.out.below (bl_then (bl_a (Below.refl _ _) _) hb8))
  have HIA8 := Lib.hid (HIA7.out.below (bl_then (bl_a (Below.refl _ _) _) hb8))
  have hnew := HTW.out.below (bl_then (bl_a (Below.refl _ _) _) hb8)
  clear kt0 kt1 kt2 kt3 kt4 kt5 kt6 kt7 kt8 kt9 kt10 kt11 kt12 kt13 kt14
  clear b0 b1 b2 b3 b4 b5 b6 b7 b8 b9 bA bB bC
  clear HTWt HTWw
  clear HTW
  have HTW := Lib.hid (hnew)
  have HTWt := Lib.hid HTW.out.bt
  have HTWw := Lib.hid HTW.out.bw
  have kt0 := HTWt.out.cell 0
  have kt1 := HTWt.out.cell 1
  have kt2 := HTWt.out.cell 2
  have kt3 := HTWt.out.cell 3
  have kt4 := HTWt.out.cell 4
  have kt5 := HTWt.out.cell 5
  have kt6 := HTWt.out.cell 6
  have kt7 := HTWt.out.cell 7
  have kt8 := HTWt.out.cell 8
  have kt9 := HTWt.out.cell 9
  have kt10 := HTWt.out.cell 10
  have kt11 := HTWt.out.cell 11
  have kt12 := HTWt.out.cell 12
  have kt13 := HTWt.out.cell 13
  have kt14 := HTWt.out.cell 14
  simp only [tabC, List.getElem?_cons_zero, List.getElem?_cons_succ] at kt0 kt1 kt2 kt3 kt4 kt5 kt6 kt7 kt8 kt9 kt10 kt11 kt12 kt13 kt14
  have b0 := HTWw.out.cell 0
  have b1 := HTWw.out.cell 1
  have b2 := HTWw.out.cell 2
  have b3 := HTWw.out.cell 3
  have b4 := HTWw.out.cell 4
  have b5 := HTWw.out.cell 5
  have b6 := HTWw.out.cell 6
  have b7 := HTWw.out.cell 7
  have b8 := HTWw.out.cell 8
  have b9 := HTWw.out.cell 9
  have bA := HTWw.out.cell 10
  have bB := HTWw.out.cell 11
  have bC := HTWw.out.cell 12
  simp only [worldC, List.getElem?_cons_zero, List.getElem?_cons_succ] at b0 b1 b2 b3 b4 b5 b6 b7 b8 b9 bA bB bC
  clear hnew
  dsimp only [List.length_nil]
  clear hb8 HPB7 HIA7
  have y0 := HPB8.out.cell 0
  have y1 := HPB8.out.cell 1
  have y2 := HPB8.out.cell 2
  simp only [List.getElem?_cons_zero, List.getElem?_cons_succ] at y0 y1 y2
  have hz2 : w2.heap.size < w8.heap.size := HPB8.out.lt
  have HS9 := Lib.hid (HSM.out 4 0 4 w8 pa pc HIA8.out)
  go_wp2_with fail
  refine HS9.out.mono ?_
  rintro e w9 ⟨rfl, hb9⟩
  have HB9 := Lib.hid (bl_then HB1.out (bl_then HTW.out.bl (bl_then (bl_a (Below.refl _ _) _) hb9)))
  clear hb9
  clear kt0 kt1 kt2 kt3 kt4 kt5 kt6 kt7 kt8 kt9 kt10 kt11 kt12 kt13 kt14
  clear b0 b1 b2 b3 b4 b5 b6 b7 b8 b9 bA bB bC
  clear HTWt HTWw
  go_wp2_with fail
  go_ret
  exact ⟨rfl, HB9.out⟩
end Go.Proofs.Ytjggklfegcejhaa
namespace Go.Proofs.Ytjggklfegcejhaa
open Go.RowKit Go.PlainAid Go.ChangeShapes Go.WideShapes Go.Deep
set_option linter.unusedVariables false
set_option linter.unusedSimpArgs false

set_option maxRecDepth 100000 in
theorem strs_open {H : Type} {enc : TypeId × Value → H} {w : World} {r : Reach} {b0 base : Nat} {spare : Nat → Bool} {held : Bool} {v : Value} {d : DataW H} {p : List MemPlace} (hv : Value.okWide Try.prog w r b0 22 v)
    (h : DataW.Trod enc Try.prog w base spare held 22 v d p) (hn : Near Try.prog 22 d) : ∃ (a : Option Addr) (l : List TxC) (c : Nat), v = .slice a l.length c ∧ l.length ≤ c ∧ l.length ≤ maxLen ∧ Wds w a l := by
  obtain ⟨a, n, c, rfl⟩ := okWide_slice Try.underlying22 hv
  obtain ⟨fuel, hf⟩ := h
  obtain ⟨l, hl⟩ := opens_strs enc w base spare held fuel _ _ hf hn
  obtain ⟨a', c', e, h1, h2, h3⟩ := reads_wds (v := .slice a n c) (l := l) hl
  exact ⟨a', l, c', e, h1, h2, h3⟩
end Go.Proofs.Ytjggklfegcejhaa
