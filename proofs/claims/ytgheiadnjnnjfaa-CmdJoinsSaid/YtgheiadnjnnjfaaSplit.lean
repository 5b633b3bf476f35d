/- Contract of clewref38.Split: the parts of a line. -/
import Derived.Test.YtgheiadnjnnjfaaSplitPlain
namespace Go.Proofs.Ytgheiadnjnnjfaa
open Go.RowKit Go.PlainAid

theorem Try.infoL : (Try.prog.info? 29).map (fun i => (i.zero, i.size, i.bytes)) = some (some (.slice none 0 0), 1, 24) := by kernel_rfl

theorem parts_go (l : List ByteArray) (k : Nat) (h : k < l.length) (ls : List (List ByteArray)) (cur : List ByteArray) {P : List (List ByteArray)} (hp : ls ++ partsG (l.drop k) cur = P) :
    (isSep l[k] = true → cur = [] → ls ++ partsG (l.drop (k + 1)) [] = P) ∧ (isSep l[k] = true → cur ≠ [] → (ls ++ [cur]) ++ partsG (l.drop (k + 1)) [] = P) ∧ (isSep l[k] = false → ls ++ partsG (l.drop (k + 1)) (cur ++ [l[k]]) = P) := by
  rw [List.drop_eq_getElem_cons h, partsG] at hp
  refine ⟨fun h1 h2 => ?_, fun h1 h2 => ?_, fun h1 => ?_⟩
  · rw [if_pos h1, h2] at hp; simpa [flushL] using hp
  · rw [if_pos h1] at hp
    have : cur.isEmpty = false := by cases cur <;> simp_all
    simpa [flushL, this] using hp
  · rw [h1] at hp; exact hp
theorem isSep_dot {x : ByteArray} (h : (x.toList == [46]) = true) : isSep x = true := by simp [isSep, h]
theorem isSep_then {x : ByteArray} (h : (x.toList == [116, 104, 101, 110]) = true) : isSep x = true := by simp [isSep, h]
theorem isSep_no {x : ByteArray} (h : (x.toList == [46]) = false) (h' : (x.toList == [116, 104, 101, 110]) = false) : isSep x = false := by simp [isSep, h, h']
def dotS : ByteArray := ⟨#[46]⟩
theorem parts_dot (l : List ByteArray) : ∀ cur, partsG (l ++ [dotS]) cur = partsG l cur := by
  induction l with
  | nil => intro cur; have : isSep dotS = true := by decide +kernel
           simp [partsG, this, flushL]
  | cons x t ih =>
    intro cur
    simp only [List.cons_append, partsG, ih]
theorem wordsS_len (s : ByteArray) : (wordsS s).length ≤ s.size := by
  have h : ∀ l cur, (wordsG l cur).length ≤ l.length + (if cur.isEmpty then 0 else 1) := by
    intro l
    induction l with
    | nil => intro cur; unfold wordsG; split <;> simp
    | cons c t ih =>
      intro cur
      unfold wordsG
      split
      · have := ih (cur ++ [lowU c])
        have e : (cur ++ [lowU c]).isEmpty = false := by cases cur <;> rfl
        rw [e] at this
        simp at this ⊢; split <;> omega
      · have := ih []
        simp at this
        have h1 : ((if cur.isEmpty then [] else [cur]) : List (List UInt8)).length = if cur.isEmpty then 0 else 1 := by split <;> rfl
        have h2 : ((if c = 46 ∨ c = 44 then [[c]] else []) : List (List UInt8)).length ≤ 1 := by split <;> simp
        simp only [List.length_append, List.length_cons, h1]
        omega
  have := h s.data.toList []
  simp only [wordsS, restW, List.drop_zero, List.length_map]
  simpa using this

theorem refSplit_long (s : ByteArray) (w : World) (hs : s.size ≤ 1000000) (hl : 256 < s.size) : Calls Try.prog 8 #[.string s] w fun e w' => ∃ v, e = .returned (.tuple #[v, .int .i64 (splitE s)]) ∧ LL w' v (splitL s) ∧ Below w.heap.size w w' := by
  have h1 : Hid (splitE s = 3) := Lib.hid (by simp [splitE]; omega)
  have h2 : Hid (splitL s = []) := Lib.hid (by simp [splitL]; omega)
  go_enter Try.func8, Try.ntmps8
  go_wp2
  go_ret2
  refine ⟨.slice none 0 0, ?_, ?_, Below.refl _ _⟩
  · rw [h1.out]; rfl
  · rw [h2.out]; exact ⟨[], SL.nil _ _ _, rfl, fun i h => by cases h⟩

theorem own_shape {w : World} {base : Nat} {e : TypeId} {v : Value} {n : Nat} {xs : List Value} (h : w.ownsRow base e 1 v n xs) : ∃ a c, v = .slice a n c := by
  rcases h.2 with ⟨rfl, rfl⟩ | ⟨g, cap, cur, rfl, _⟩
  · exact ⟨_, _, rfl⟩
  · exact ⟨_, _, rfl⟩
theorem own_head {w : World} {base : Nat} {e : TypeId} {v : Value} {n : Nat} {xs : List Value} (h : w.ownsRow base e 1 v n xs) (hn : 0 < n) : ∃ g c, v = .slice (some ⟨g, 0, none⟩) n c ∧ g < w.heap.size ∧ ∀ i (hi : i < xs.length), w.cell? ⟨g, i, none⟩ = some xs[i] := by
  rcases h.2 with ⟨rfl, rfl⟩ | ⟨g, cap, cur, rfl, _, hg, _⟩
  · omega
  · refine ⟨g, cap, rfl, lt_of_block hg, fun i hi => ?_⟩
    rw [h.cellAt i (by have := h.1; omega), List.getElem?_eq_getElem hi]
theorem one_val {x : Value} (h : x.oneCell' = true) : ∀ u ∈ [x], u.oneCell' = true := by intro u hu; simp at hu; subst hu; exact h
theorem one_slice (a : Option Addr) (n c : Nat) : ∀ u ∈ [Value.slice a n c], u.oneCell' = true := one_val rfl
theorem len_bd {n : Nat} (h : n ≤ 1000000) : n + 1 ≤ maxLen ∧ (n + 1) * 16 ≤ 140737488355328 ∧ (n + 1) * 24 ≤ 140737488355328 := by unfold maxLen; omega
theorem len_snoc {ls : List (List ByteArray)} {cur : List ByteArray} {n : Nat} (h : ∀ l ∈ ls, l.length ≤ n) (hc : cur.length ≤ n) : ∀ l ∈ ls ++ [cur], l.length ≤ n := by
  intro l hl
  rcases List.mem_append.1 hl with h1 | h1
  · exact h l h1
  · rw [List.mem_singleton.1 h1]; exact hc
theorem Core.reset {w : World} {tl te : TypeId} {base : Nat} {vo vp : Value} {ls : List (List ByteArray)} {cur : List ByteArray} {vs : List Value} {B : Nat} (h : Core w tl te base vo vp ls cur vs B) : Core w tl te base vo (.slice none 0 0) ls [] vs w.heap.size :=
  ⟨Nat.le_trans h.1 h.2.1, Nat.le_refl _, h.2.2.1, World.ownsRow_nil _ _ _ _, h.2.2.2.2.mono h.2.1⟩
theorem dot_last (l : List ByteArray) (k : Nat) (h : k + 1 = (l ++ [dotS]).length) (h' : k < (l ++ [dotS]).length) : (l ++ [dotS])[k] = dotS := by
  have : k = l.length := by simp at h; omega
  subst this; simp

set_option maxHeartbeats 3200000 in
theorem refSplit_short (s : ByteArray) (w : World) (hl : ¬ 256 < s.size) : Calls Try.prog 8 #[.string s] w fun e w' => ∃ v, e = .returned (.tuple #[v, .int .i64 (splitE s)]) ∧ LL w' v (splitL s) ∧ Below w.heap.size w w' := by
  obtain ⟨i0, hi, hz0, hz1, hz2⟩ := info_parts Try.infoS
  obtain ⟨i1, hj, hy0, hy1, hy2⟩ := info_parts Try.infoL
  have hwl := wordsS_len s
  have hbw := len_bd (n := (wordsS s).length) (by omega)
  have HPD := Lib.hid (parts_dot (wordsS s) [])
  go_enter Try.func8, Try.ntmps8
  go_wp2_with (first
    | (go_at_call 16; refine (refWords s _ (by omega)).mono ?_; rintro e w1 ⟨v1, rfl, hown1, hlen1, hb1⟩)
    | (at_builtin; refine wpList_append_own _ rfl _ _ 29 rfl w.heap.size 9 i0 (.string ByteArray.empty) 1 16 Try.underlying29 hi hz0 hz1 hz2 rfl (by decide) _ _ _ rfl (hown1.alloc _) ⟨w1.heap.size, 0, none⟩ 1 1 [.string dotS] rfl rfl (cell_one_new _ _ _) (one_str _) hbw.1 hbw.2.1 (le_alloc hb1.size _) ?_; intro v2 w2 hown2 hgrow2 _))
  have hex := own_head hown2 (Nat.succ_pos _)
  obtain ⟨g, cg, hv2, hg2, hcell2⟩ := hex
  rw [hv2]
  obtain ⟨W, hW⟩ : ∃ W, wordsS s ++ [dotS] = W := ⟨_, rfl⟩
  have HCW : Hid (∀ i (h : i < W.length), w2.cell? ⟨g, i, none⟩ = some (.string W[i])) := by
    subst hW
    intro i h
    rw [hcell2 i (by simpa using h)]
    congr 1
    by_cases hi' : i < (wordsS s).length
    · rw [List.getElem_append_left (by simpa using hi'), List.getElem_append_left hi']; simp
    · have e : i = (wordsS s).length := by simp at h; omega
      subst e; simp
  have hWl : W.length = (wordsS s).length + 1 := by subst hW; simp
  have HLAST : Hid (∀ k (h : k < W.length), k + 1 = W.length → W[k] = dotS) := by subst hW; exact fun k h h' => dot_last _ k h' h
  have HPW : Hid (partsG W [] = parts (wordsS s)) := by subst hW; exact HPD
  have hgr : Hid (Below w.heap.size w w2) := Lib.hid ((hb1.alloc hb1.size _).grown hgrow2 (le_alloc hb1.size _) (own_lt hown1))
  have hsz := hgr.out.size
  clear hcell2 hv2 hown2 hgrow2 hown1 hlen1 hb1 HPD hbw hW
  obtain ⟨N, hN⟩ : ∃ N, (wordsS s).length + 1 = N := ⟨_, rfl⟩
  have hN2 : N ≤ 300 := by omega
  have HWL : Hid (W.length = N) := Lib.hid (by rw [← hN]; exact hWl)
  rw [hN]
  clear hN hwl hWl
  go_loopw [4, 5, 7] (fun vo vp i wr => ∃ (k : Nat) (ls : List (List ByteArray)) (cur : List ByteArray) (vs : List Value) (B : Nat), k ≤ N ∧ i = .int .i64 k ∧ Hid (Core wr 29 9 w2.heap.size vo vp ls cur vs B) ∧ Hid (ls ++ partsG (W.drop k) cur = parts (wordsS s)) ∧ cur.length ≤ k ∧ ls.length ≤ k ∧ Hid (k = N → cur = []) ∧ Hid (∀ l ∈ ls, l.length ≤ 300) ∧ Hid (Below w2.heap.size w2 wr)) (fun _ _ i _ => N - (intOf i).toNat)
  case atStart => exact ⟨0, [], [], [], _, Nat.zero_le _, rfl, Core.start _ _ _ (Nat.le_refl _), HPW.out, Nat.le_refl _, Nat.le_refl _, Lib.hid (fun _ => rfl), Lib.hid (fun l h => by cases h), Below.refl _ _⟩
  case round =>
    obtain ⟨k, ls, cur, vs, B, hk, rfl, hcore, hp, hcl, hll, hke, hlb, hbel⟩ := hrel
    have hb3 := len_bd (n := cur.length) (by omega)
    have hb4 := len_bd (n := ls.length) (by omega)
    by_cases hlt : k < N
    · have hkW : k < W.length := by have := HWL.out; omega
      have hx := HCW.out k hkW
      have HGO := Lib.hid (parts_go W k hkW ls cur hp.out)
      have HLK := Lib.hid (fun h => HLAST.out k hkW h)
      generalize W[k] = x at hx HGO HLK
      have hx' := (hbel.out.cell (p := ⟨g, k, none⟩) hg2).trans hx
      obtain ⟨ap, cp, hvp⟩ := own_shape hcore.out.2.2.2.1
      subst hvp
      cases h46 : (x.toList == [46]) with
      | true =>
        have HS := Lib.hid (isSep_dot h46)
        by_cases hc0 : cur = []
        · subst hc0
          have hP := Lib.hid (HGO.out.1 HS.out rfl)
          go_wp2
          go_roundw
          case rel => exact ⟨k + 1, ls, [], vs, wr.heap.size, by omega, by go_num, Core.reset hcore.out, hP, Nat.zero_le _, by omega, Lib.hid (fun _ => rfl), hlb, hbel⟩
          case measure => simp [intOf]; omega
        · have hcp : 0 < cur.length := List.length_pos_iff.2 hc0
          have hP := Lib.hid (HGO.out.2.1 HS.out hc0)
          go_wp2_with (at_builtin; refine wpList_append_own _ rfl _ _ 23 rfl w2.heap.size 29 i1 (.slice none 0 0) 1 24 Try.underlying23 hj hy0 hy1 hy2 rfl (by decide) _ _ _ rfl (hcore.out.2.2.1.alloc _) ⟨wr.heap.size, 0, none⟩ 1 1 [.slice ap cur.length cp] rfl rfl (cell_one_new _ _ _) (one_slice _ _ _) hb4.1 hb4.2.2 (le_alloc hbel.out.size _) ?_; intro v3 w3 hown3 hgrow3 _; have hco := Lib.hid (Core.flush (by decide) (hcore.out.kept (row := none) (World.grownBy_alloc _ _ _) (fun k h => by cases h)) hgrow3 hown3); have hbel2 := Lib.hid ((hbel.out.alloc hbel.out.size _).grown hgrow3 (le_alloc hbel.out.size _) (own_lt hcore.out.2.2.1)); have hlb2 := Lib.hid (len_snoc hlb.out (show cur.length ≤ 300 by omega)); clear hown3 hgrow3)
          go_roundw
          case rel => exact ⟨k + 1, ls ++ [cur], [], _, _, by omega, by go_num, hco, hP, Nat.zero_le _, by simp; omega, Lib.hid (fun _ => rfl), hlb2, hbel2⟩
          case measure => simp [intOf]; omega
      | false =>
        cases hth : (x.toList == [116, 104, 101, 110]) with
        | true =>
          have HS := Lib.hid (isSep_then hth)
          by_cases hc0 : cur = []
          · subst hc0
            have hP := Lib.hid (HGO.out.1 HS.out rfl)
            go_wp2
            go_roundw
            case rel => exact ⟨k + 1, ls, [], vs, wr.heap.size, by omega, by go_num, Core.reset hcore.out, hP, Nat.zero_le _, by omega, Lib.hid (fun _ => rfl), hlb, hbel⟩
            case measure => simp [intOf]; omega
          · have hcp : 0 < cur.length := List.length_pos_iff.2 hc0
            have hP := Lib.hid (HGO.out.2.1 HS.out hc0)
            go_wp2_with (at_builtin; refine wpList_append_own _ rfl _ _ 23 rfl w2.heap.size 29 i1 (.slice none 0 0) 1 24 Try.underlying23 hj hy0 hy1 hy2 rfl (by decide) _ _ _ rfl (hcore.out.2.2.1.alloc _) ⟨wr.heap.size, 0, none⟩ 1 1 [.slice ap cur.length cp] rfl rfl (cell_one_new _ _ _) (one_slice _ _ _) hb4.1 hb4.2.2 (le_alloc hbel.out.size _) ?_; intro v3 w3 hown3 hgrow3 _; have hco := Lib.hid (Core.flush (by decide) (hcore.out.kept (row := none) (World.grownBy_alloc _ _ _) (fun k h => by cases h)) hgrow3 hown3); have hbel2 := Lib.hid ((hbel.out.alloc hbel.out.size _).grown hgrow3 (le_alloc hbel.out.size _) (own_lt hcore.out.2.2.1)); have hlb2 := Lib.hid (len_snoc hlb.out (show cur.length ≤ 300 by omega)); clear hown3 hgrow3)
            go_roundw
            case rel => exact ⟨k + 1, ls ++ [cur], [], _, _, by omega, by go_num, hco, hP, Nat.zero_le _, by simp; omega, Lib.hid (fun _ => rfl), hlb2, hbel2⟩
            case measure => simp [intOf]; omega
        | false =>
          have HS := Lib.hid (isSep_no h46 hth)
          have hP := Lib.hid (HGO.out.2.2 HS.out)
          have hnl : Hid (k + 1 ≠ N) := Lib.hid (fun h => by have e := HLK.out (by have := HWL.out; omega); rw [e] at h46; exact absurd h46 (by decide +kernel))
          go_wp2_with (at_builtin; refine wpList_append_own _ rfl _ _ 29 rfl B 9 i0 (.string ByteArray.empty) 1 16 Try.underlying29 hi hz0 hz1 hz2 rfl (by decide) _ _ _ rfl (hcore.out.2.2.2.1.alloc _) ⟨wr.heap.size, 0, none⟩ 1 1 [.string x] rfl rfl (cell_one_new _ _ _) (one_str _) hb3.1 hb3.2.1 (le_alloc hcore.out.2.1 _) ?_; intro v3 w3 hown3 hgrow3 _; have hco := Lib.hid (Core.push (by decide) (hcore.out.kept (row := none) (World.grownBy_alloc _ _ _) (fun k h => by cases h)) hgrow3 hown3); have hbel2 := Lib.hid ((hbel.out.alloc hbel.out.size _).grown hgrow3 (le_alloc hbel.out.size _) (fun k h => Nat.le_trans hcore.out.1 (own_lt hcore.out.2.2.2.1 k h))); clear hown3 hgrow3)
          go_roundw
          case rel => exact ⟨k + 1, ls, cur ++ [x], vs, B, by omega, by go_num, hco, hP, by simp; omega, by omega, Lib.hid (fun h => absurd h hnl.out), hlb, hbel2⟩
          case measure => simp [intOf]; omega
    · have hkN : k = N := by omega
      have hcur := hke.out hkN
      subst hcur
      have hpe : Hid (ls = parts (wordsS s)) := Lib.hid (by
        have := hp.out
        rw [List.drop_eq_nil_of_le (by have := HWL.out; omega), partsG] at this
        simpa [flushL] using this)
      have hread := Lib.hid (Core.read hcore.out (by unfold maxLen; omega) (fun l hl => by have := hlb.out l hl; unfold maxLen; omega))
      have hbf := Lib.hid (hgr.out.trans (hbel.out.mono hsz))
      obtain ⟨ao, co, hvo⟩ := own_shape hcore.out.2.2.1
      subst hvo
      by_cases h32 : 32 < ls.length
      · go_wp2
        go_ret2
        refine ⟨.slice none 0 0, ?_, ?_, hbf⟩
        · have : splitE s = 7 := by rw [splitE, if_pos (by omega), if_neg (by rw [← hpe.out]; omega)]
          rw [this]; rfl
        · have : splitL s = [] := by rw [splitL, if_pos (by omega), if_neg (by rw [← hpe.out]; omega)]
          rw [this]; exact ⟨[], SL.nil _ _ _, rfl, fun i h => by cases h⟩
      · go_wp2
        go_ret2
        refine ⟨.slice ao ls.length co, ?_, ?_, hbf⟩
        · have : splitE s = 0 := by rw [splitE, if_pos (by omega), if_pos (by rw [← hpe.out]; omega)]
          rw [this]; rfl
        · have : splitL s = ls := by rw [splitL, if_pos (by omega), if_pos (by rw [← hpe.out]; omega)]; exact hpe.out.symm
          rw [this]; exact hread

theorem refSplit (s : ByteArray) (w : World) (hs : s.size ≤ 1000000) : Calls Try.prog 8 #[.string s] w fun e w' => ∃ v, e = .returned (.tuple #[v, .int .i64 (splitE s)]) ∧ LL w' v (splitL s) ∧ Below w.heap.size w w' := by
  by_cases h : 256 < s.size
  · exact refSplit_long s w hs h
  · exact refSplit_short s w h
end Go.Proofs.Ytgheiadnjnnjfaa
