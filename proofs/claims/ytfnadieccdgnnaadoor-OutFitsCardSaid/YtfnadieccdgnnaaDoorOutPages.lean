/- Contracts of out.Pages and clewref44.Pages. -/
import Derived.Test.YtfnadieccdgnnaaDoorOutSame
import Derived.Test.YtfnadieccdgnnaaDoorOutRef2
namespace Go.Proofs.YtfnadieccdgnnaaDoor
open Go.RowKit Go.PlainAid
set_option linter.unusedVariables false
set_option linter.unusedSimpArgs false

/-- A list in pages of n. -/
def pagesO {α : Type} (n : Nat) (l : List α) : List (List α) :=
  if h : 0 < n ∧ 0 < l.length then l.take n :: pagesO n (l.drop n) else []
termination_by l.length
decreasing_by simp; omega
theorem pages_more {α : Type} {n : Nat} {l : List α} (h0 : 0 < n) (h : 0 < l.length) : pagesO n l = l.take n :: pagesO n (l.drop n) := by
  rw [pagesO]; rw [dif_pos ⟨h0, h⟩]
theorem pages_nil {α : Type} {n : Nat} : pagesO n ([] : List α) = [] := by
  rw [pagesO]; rw [dif_neg (by simp)]
theorem pages_last {α : Type} {n : Nat} {l : List α} (h0 : 0 < n) (h : 0 < l.length) (hl : l.length ≤ n) : pagesO n l = [l] := by
  rw [pages_more h0 h, List.take_of_length_le hl, List.drop_eq_nil_of_le hl, pages_nil]

theorem Tryd.infoP : (Tryd.prog.info? 24).map (fun i => (i.zero, i.size, i.bytes)) = some (some (.slice none 0 0), 1, 24) := by kernel_rfl
/-- Rows of two element types are two rows. -/
theorem ow_types {w : World} {b1 b2 : Nat} {e1 e2 : TypeId} {v1 v2 : Value} {n1 n2 : Nat} {xs ys : List Value} (h1 : w.ownsRow b1 e1 1 v1 n1 xs) (h2 : w.ownsRow b2 e2 1 v2 n2 ys) (he : e1 ≠ e2) (k : Nat) (hk : v1.ownBlock = some k) : v2.ownBlock ≠ some k := by
  intro hk2
  rcases h1.2 with ⟨rfl, _⟩ | ⟨g, cap, cur, rfl, _, hg, _⟩
  · simp [Value.ownBlock] at hk
  · rcases h2.2 with ⟨rfl, _⟩ | ⟨g2, cap2, cur2, rfl, _, hg2, _⟩
    · simp [Value.ownBlock] at hk2
    · simp [Value.ownBlock] at hk hk2
      subst hk; subst hk2
      rw [hg] at hg2
      simp at hg2
      exact he hg2.2
theorem ow_kept' {w w' : World} {base : Nat} {e : TypeId} {v : Value} {n : Nat} {xs : List Value} {row : Option Nat} (h : w.ownsRow base e 1 v n xs) (hg : w.grownBy w' row) (hr : ∀ k, row = some k → v.ownBlock ≠ some k) : w'.ownsRow base e 1 v n xs := by
  refine h.kept hg ?_
  cases row with
  | none => cases hv : v.ownBlock <;> simp
  | some k => exact .inr (hr k rfl)
/-- Lists of texts that the call owns, in a list that it owns. -/
def PgO (w : World) (base : Nat) (v : Value) (ls : List (List (List UInt8))) : Prop :=
  ∃ vs, w.ownsRow base 24 1 v ls.length vs ∧ vs.length = ls.length ∧ ∀ i (h : i < vs.length) (h' : i < ls.length), OwS w base vs[i] ls[i]
theorem PgO.nil (w : World) (base : Nat) : PgO w base (.slice none 0 0) [] := ⟨[], World.ownsRow_nil _ _ _ _, rfl, fun i h => by cases h⟩
theorem PgO.below {w w' : World} {base : Nat} {v : Value} {ls : List (List (List UInt8))} (h : PgO w base v ls) (hb : Below w.heap.size w w') : PgO w' base v ls := by
  obtain ⟨vs, h1, h2, h3⟩ := h
  exact ⟨vs, ow_below h1 hb, h2, fun i a b => ow_below (h3 i a b) hb⟩
theorem PgO.shape {w : World} {base : Nat} {v : Value} {ls : List (List (List UInt8))} (h : PgO w base v ls) : ∃ a c, v = .slice a ls.length c := by
  obtain ⟨vs, h1, _⟩ := h; exact ow_shape h1
theorem PgO.lo {w : World} {base : Nat} {v : Value} {ls : List (List (List UInt8))} (h : PgO w base v ls) : ∀ k, v.ownBlock = some k → base ≤ k := by
  obtain ⟨vs, h1, _⟩ := h; exact ow_lo h1
theorem PgO.push {w w' : World} {base : Nat} {v v' x : Value} {ls : List (List (List UInt8))} {l : List (List UInt8)} {vs : List Value} (h1 : w.ownsRow base 24 1 v ls.length vs) (h2 : vs.length = ls.length) (h3 : ∀ i (h : i < vs.length) (h' : i < ls.length), OwS w base vs[i] ls[i])
    (hx : OwS w base x l) (hg : w.grownBy w' v.ownBlock) (hown : w'.ownsRow base 24 1 v' (ls.length + 1) (vs ++ [x])) : PgO w' base v' (ls ++ [l]) := by
  refine ⟨vs ++ [x], by simpa using hown, by simp [h2], fun i a b => ?_⟩
  by_cases hi : i < vs.length
  · have hi' : i < ls.length := by omega
    rw [List.getElem_append_left hi, List.getElem_append_left hi']
    exact ow_kept' (h3 i hi hi') hg (fun k hk => ow_types h1 (h3 i hi hi') (by decide) k hk)
  · have e : i = vs.length := by simp at a; omega
    have e' : i = ls.length := by omega
    have g1 : (vs ++ [x])[i] = x := by simp [e]
    have g2 : (ls ++ [l])[i] = l := by simp [e']
    rw [g1, g2]
    exact ow_kept' hx hg (fun k hk => ow_types h1 hx (by decide) k hk)
theorem PgO.read {w : World} {base : Nat} {v : Value} {ls : List (List (List UInt8))} (h : PgO w base v ls) (hm : ls.length ≤ maxLen) (hm' : ∀ l ∈ ls, l.length ≤ maxLen) : LLB w v ls := by
  obtain ⟨vs, h1, h2, h3⟩ := h
  exact ⟨vs, SL.own h1 hm, h2, fun i a b => (h3 i a b).sl (hm' _ (List.getElem_mem b))⟩
theorem pages_mem {α : Type} (n : Nat) : ∀ (k : Nat) (l : List α), l.length ≤ k → ∀ p ∈ pagesO n l, p.length ≤ l.length
  | k, l, hk, p, hp => by
    by_cases h : 0 < n ∧ 0 < l.length
    · rw [pages_more h.1 h.2] at hp
      rcases List.mem_cons.1 hp with e | e
      · rw [e]; simp; omega
      · cases k with
        | zero => omega
        | succ k =>
          have := pages_mem n k (l.drop n) (by simp; omega) p e
          simp at this; omega
    · rw [pagesO, dif_neg h] at hp; cases hp
theorem pages_len {α : Type} (n : Nat) : ∀ (k : Nat) (l : List α), l.length ≤ k → (pagesO n l).length ≤ l.length
  | k, l, hk => by
    by_cases h : 0 < n ∧ 0 < l.length
    · rw [pages_more h.1 h.2]
      cases k with
      | zero => omega
      | succ k =>
        have := pages_len n k (l.drop n) (by simp; omega)
        simp at this ⊢; omega
    · rw [pagesO, dif_neg h]; simp

/-- The height that counts. -/
def highN (h : Int) : Nat := (max h 1).toNat
set_option maxRecDepth 100000 in
set_option maxHeartbeats 4000000 in
theorem outPages (v0 : Value) (L : List (List UInt8)) (height : Int) (w : World) (hL : L.length ≤ 200000) (hS0 : SLC w v0 (L.map strV)) (hh : height ≤ 9223372036854775807) :
    Calls Tryd.prog 11 #[v0, .int .i64 height] w fun e w' => ∃ v, e = .returned v ∧ LLB w' v (pagesO (highN height) L) ∧ Below w.heap.size w w' := by
  obtain ⟨i0, hi, hz0, hz1, hz2⟩ := info_parts Tryd.infoStr
  obtain ⟨i1, hj, hy0, hy1, hy2⟩ := info_parts Tryd.infoP
  obtain ⟨n, hn⟩ : ∃ n, highN height = n := ⟨_, rfl⟩
  have hn1 : 0 < n := by rw [← hn]; unfold highN; omega
  have hni : max height 1 = (n : Int) := by rw [← hn]; unfold highN; omega
  have hnb : n ≤ 9223372036854775807 := by rw [← hn]; unfold highN; omega
  rw [hn]
  obtain ⟨F, hF⟩ : ∃ F, pagesO n L = F := ⟨_, rfl⟩
  have HF := Lib.hid hF
  have HM : Hid (F.length ≤ maxLen ∧ ∀ l ∈ F, l.length ≤ maxLen) := Lib.hid (by
    rw [← hF]
    exact ⟨by have := pages_len n _ L (Nat.le_refl _); unfold maxLen; omega, fun l hl => by have := pages_mem n _ L (Nat.le_refl _) l hl; unfold maxLen; omega⟩)
  rw [hF]
  have HNi := Lib.hid hni
  have hS := Lib.hid hS0
  obtain ⟨a0, c0, hv0, hc0⟩ := hS0.2
  rw [List.length_map] at hv0 hc0
  subst hv0
  clear hF hn hni hS0
  go_enter Tryd.func11, Tryd.ntmps11
  go_wp2
  rw [HNi.out]
  go_loopw [0, 5] (fun y v wr => ∃ (rest : List (List UInt8)) (pages : List (List (List UInt8))) (a : Option Addr) (c : Nat), y = .slice a rest.length c ∧ rest.length ≤ c ∧ pages.length + rest.length ≤ 200000 ∧ Hid (SLC w y (rest.map strV)) ∧ Hid (PgO wr w.heap.size v pages) ∧ Hid (Below w.heap.size w wr) ∧ Hid (pages ++ pagesO n rest = F)) (fun y _ _ => match y with | .slice _ k _ => k | _ => 0)
  case atStart => exact ⟨L, [], a0, c0, rfl, hc0, by simp; omega, hS, Lib.hid (PgO.nil _ _), Lib.hid (Below.refl _ _), HF⟩
  case round =>
    obtain ⟨rest, pages, a, c, rfl, hrc, hbd, hS, hP, hBl, hFo⟩ := hrel
    obtain ⟨va, vc, hv⟩ := hP.out.shape
    subst hv
    by_cases h0 : 0 < rest.length
    · have hne : rest.map strV ≠ [] := by intro e; have := congrArg List.length e; simp at this; rw [this] at h0; simp at h0
      obtain ⟨b, off, c', hv, hcc, hblt, hcell⟩ := hS.out.shape hne
      have hac : a = some ⟨b, off, none⟩ ∧ c = c' := by simp at hv; exact hv
      obtain ⟨rfl, rfl⟩ := hac
      have hlen : (rest.map strV).length = rest.length := by simp
      have hrm : rest.length ≤ maxLen := by unfold maxLen; omega
      obtain ⟨q, hq⟩ : ∃ q, min n rest.length = q := ⟨_, rfl⟩
      have hqi : min (n : Int) (rest.length : Int) = (q : Int) := by omega
      have hq1 : 0 < q := by omega
      have hq2 : q ≤ rest.length := by omega
      have hqc1 : q ≤ c := by omega
      have hpg : pagesO n rest = rest.take q :: pagesO n (rest.drop q) := by
        rw [pages_more hn1 h0]
        by_cases hle : n ≤ rest.length
        · rw [show q = n by omega]
        · rw [show q = rest.length by omega, List.take_of_length_le (by omega), List.take_of_length_le (Nat.le_refl _), List.drop_eq_nil_of_le (by omega), List.drop_eq_nil_of_le (Nat.le_refl _)]
      have HF2 : Hid ((pages ++ [rest.take q]) ++ pagesO n (rest.drop q) = F) := Lib.hid (by rw [List.append_assoc]; have := hFo.out; rw [hpg] at this; exact this)
      have HT : Hid (∀ w', Below w.heap.size w w' → SL w' (.slice (some ⟨b, off, none⟩) q c) ((rest.take q).map strV)) := Lib.hid (fun w' hb => by
        have := SL.take (c := c) hrm hlen hblt hcell q hq2
        rw [List.map_take]; exact this.below hb)
      have hone : ∀ u ∈ (rest.take q).map strV, u.oneCell' = true := fun u hu => by obtain ⟨z, _, rfl⟩ := List.mem_map.1 hu; rfl
      have hbm1 : 0 + ((rest.take q).map strV).length ≤ maxLen ∧ (0 + ((rest.take q).map strV).length) * 16 ≤ 140737488355328 := by simp; unfold maxLen; omega
      have hbm2 : pages.length + 1 ≤ maxLen ∧ (pages.length + 1) * 24 ≤ 140737488355328 := by unfold maxLen; omega
      have hsz := hBl.out.size
      have HQ := Lib.hid hqi
      obtain ⟨vs, hO1, hO2, hO3⟩ := hP.out
      have HO1 := Lib.hid hO1
      have HO3 := Lib.hid hO3
      have HC := Lib.hid hcell
      have htl : (rest.take q).length = q := by simp; omega
      have hdl : (rest.drop q).length = rest.length - q := by simp
      have hi1 : (rest.length : Int) - (q : Int) = ((rest.length - q : Nat) : Int) := by omega
      have hi2 : (c : Int) - (q : Int) = ((c - q : Nat) : Int) := by omega
      clear hO1 hO3 hcell hq hpg hv hne
      by_cases hqc : q = c
      · have HR : Hid (∀ w', Below w.heap.size w w' → SLC w' (.slice (some ⟨b, off, none⟩) (rest.length - q) (c - q)) ((rest.drop q).map strV)) := Lib.hid (fun w' hb => by
          rw [List.map_drop]; exact SLC.none _ _ _ hlen (by omega))
        obtain rfl : q = c := hqc
        go_wp2_with (first
          | (at_builtin; refine wpList_append_SL rfl _ _ 24 rfl wr.heap.size 9 i0 (.string ByteArray.empty) 16 Tryd.underlying24 hi hz0 hz1 hz2 rfl (.slice none 0 0) 0 [] rfl (World.ownsRow_nil _ _ _ _) (.slice (some ⟨b, off, none⟩) q _) ((rest.take q).map strV) rfl (HT.out _ hBl.out) hone hbm1.1 hbm1.2 (Nat.le_refl _) ?_; intro v5 w5 hown5 hgrow5; have hb5 := below_of hgrow5 (fun k hk => by simp [Value.ownBlock] at hk); have hx5 : OwS w5 w.heap.size v5 (rest.take q) := ow_base' (by unfold OwS; simpa using hown5) hsz; obtain ⟨a5, c5, hv5⟩ := ow_shape hx5; rw [htl] at hv5; subst hv5; have Hx5 := Lib.hid hx5; have Hb5 := Lib.hid hb5; have hz5 := Nat.le_trans hsz hb5.size; clear hown5 hgrow5 hb5 hx5)
          | (at_builtin; refine wpList_append_own _ rfl _ _ 27 rfl w.heap.size 24 i1 (.slice none 0 0) 1 24 Tryd.underlying27 hj hy0 hy1 hy2 rfl (by decide) (.slice va pages.length vc) pages.length vs rfl ((ow_below HO1.out Hb5.out).alloc _) ⟨w5.heap.size, 0, none⟩ 1 1 [.slice a5 q c5] rfl rfl (cell_one_new _ _ _) (ow_one rfl) hbm2.1 hbm2.2 (ow_le hz5 _) ?_; intro v6 w6 hown6 hgrow6 _))
        have HP6 : Hid (PgO w6 w.heap.size v6 (pages ++ [rest.take q])) := Lib.hid (PgO.push (w := w5.alloc _) ((ow_below HO1.out Hb5.out).alloc _) hO2 (fun i h h' => World.ownsRow.alloc (ow_below (HO3.out i h h') Hb5.out) _) (World.ownsRow.alloc Hx5.out _) hgrow6 hown6)
        have HB6 : Hid (Below w.heap.size w w6) := Lib.hid (((hBl.out.trans (Hb5.out.mono hsz)).alloc hz5 _).grown hgrow6 (ow_le hz5 _) (ow_lo HO1.out))
        clear hown6 hgrow6
        go_roundw
        have hz : rest.length - q = 0 := by omega
        have hR2 := HR.out w (Below.refl _ _)
        rw [hz, Nat.sub_self] at hR2
        case rel => exact ⟨rest.drop q, _, some ⟨b, off, none⟩, 0, by rw [hdl, hz], by omega, by simp; omega, Lib.hid hR2, HP6, HB6, HF2⟩
        case measure => show 0 < rest.length; omega
      · have hqc' : q < c := by omega
        have HR : Hid (∀ w', Below w.heap.size w w' → SLC w' (.slice (some ⟨b, off + q, none⟩) (rest.length - q) (c - q)) ((rest.drop q).map strV)) := Lib.hid (fun w' hb => by
          rw [List.map_drop]; exact (SLC.drop hrm hlen hrc hblt HC.out q hq2 hqc').below hb)
        clear hqc
        go_wp2_with (first
          | (at_builtin; refine wpList_append_SL rfl _ _ 24 rfl wr.heap.size 9 i0 (.string ByteArray.empty) 16 Tryd.underlying24 hi hz0 hz1 hz2 rfl (.slice none 0 0) 0 [] rfl (World.ownsRow_nil _ _ _ _) (.slice (some ⟨b, off, none⟩) q _) ((rest.take q).map strV) rfl (HT.out _ hBl.out) hone hbm1.1 hbm1.2 (Nat.le_refl _) ?_; intro v5 w5 hown5 hgrow5; have hb5 := below_of hgrow5 (fun k hk => by simp [Value.ownBlock] at hk); have hx5 : OwS w5 w.heap.size v5 (rest.take q) := ow_base' (by unfold OwS; simpa using hown5) hsz; obtain ⟨a5, c5, hv5⟩ := ow_shape hx5; rw [htl] at hv5; subst hv5; have Hx5 := Lib.hid hx5; have Hb5 := Lib.hid hb5; have hz5 := Nat.le_trans hsz hb5.size; clear hown5 hgrow5 hb5 hx5)
          | (at_builtin; refine wpList_append_own _ rfl _ _ 27 rfl w.heap.size 24 i1 (.slice none 0 0) 1 24 Tryd.underlying27 hj hy0 hy1 hy2 rfl (by decide) (.slice va pages.length vc) pages.length vs rfl ((ow_below HO1.out Hb5.out).alloc _) ⟨w5.heap.size, 0, none⟩ 1 1 [.slice a5 q c5] rfl rfl (cell_one_new _ _ _) (ow_one rfl) hbm2.1 hbm2.2 (ow_le hz5 _) ?_; intro v6 w6 hown6 hgrow6 _))
        have HP6 : Hid (PgO w6 w.heap.size v6 (pages ++ [rest.take q])) := Lib.hid (PgO.push (w := w5.alloc _) ((ow_below HO1.out Hb5.out).alloc _) hO2 (fun i h h' => World.ownsRow.alloc (ow_below (HO3.out i h h') Hb5.out) _) (World.ownsRow.alloc Hx5.out _) hgrow6 hown6)
        have HB6 : Hid (Below w.heap.size w w6) := Lib.hid (((hBl.out.trans (Hb5.out.mono hsz)).alloc hz5 _).grown hgrow6 (ow_le hz5 _) (ow_lo HO1.out))
        clear hown6 hgrow6
        go_roundw
        case rel => exact ⟨rest.drop q, _, _, _, by rw [hdl], by omega, by simp; omega, Lib.hid (HR.out _ (Below.refl _ _)), HP6, HB6, HF2⟩
        case measure => show rest.length - q < rest.length; omega
    · have h0' : rest.length = 0 := by omega
      have hFe : Hid (pages = F) := Lib.hid (by have := hFo.out; rw [List.length_eq_zero_iff.1 h0', pages_nil, List.append_nil] at this; exact this)
      clear h0'
      go_wp2
      go_ret
      exact ⟨_, rfl, (hFe.out ▸ hP.out : PgO wr w.heap.size _ F).read HM.out.1 HM.out.2, hBl.out⟩
end Go.Proofs.YtfnadieccdgnnaaDoor
