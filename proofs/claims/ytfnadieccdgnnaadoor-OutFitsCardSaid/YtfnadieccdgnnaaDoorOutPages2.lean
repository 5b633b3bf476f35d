/- Contract of clewref44.Pages. -/
import Derived.Test.YtfnadieccdgnnaaDoorOutPages
namespace Go.Proofs.YtfnadieccdgnnaaDoor
open Go.RowKit Go.PlainAid
set_option linter.unusedVariables false
set_option linter.unusedSimpArgs false

/-- Lists of texts that were there in world w0, in a list that the call owns. -/
def PgR (w0 w : World) (base : Nat) (v : Value) (ls : List (List (List UInt8))) : Prop :=
  ∃ vs, w.ownsRow base 24 1 v ls.length vs ∧ vs.length = ls.length ∧ ∀ i (h : i < vs.length) (h' : i < ls.length), SL w0 vs[i] (ls[i].map strV)
theorem PgR.nil (w0 w : World) (base : Nat) : PgR w0 w base (.slice none 0 0) [] := ⟨[], World.ownsRow_nil _ _ _ _, rfl, fun i h => by cases h⟩
theorem PgR.shape {w0 w : World} {base : Nat} {v : Value} {ls : List (List (List UInt8))} (h : PgR w0 w base v ls) : ∃ a c, v = .slice a ls.length c := by
  obtain ⟨vs, h1, _⟩ := h; exact ow_shape h1
theorem PgR.push {w0 w' : World} {base : Nat} {v' x : Value} {ls : List (List (List UInt8))} {l : List (List UInt8)} {vs : List Value} (h2 : vs.length = ls.length) (h3 : ∀ i (h : i < vs.length) (h' : i < ls.length), SL w0 vs[i] (ls[i].map strV))
    (hx : SL w0 x (l.map strV)) (hown : w'.ownsRow base 24 1 v' (ls.length + 1) (vs ++ [x])) : PgR w0 w' base v' (ls ++ [l]) := by
  refine ⟨vs ++ [x], by simpa using hown, by simp [h2], fun i a b => ?_⟩
  by_cases hi : i < vs.length
  · have hi' : i < ls.length := by omega
    rw [List.getElem_append_left hi, List.getElem_append_left hi']
    exact h3 i hi hi'
  · have e : i = vs.length := by simp at a; omega
    have e' : i = ls.length := by omega
    have g1 : (vs ++ [x])[i] = x := by simp [e]
    have g2 : (ls ++ [l])[i] = l := by simp [e']
    rw [g1, g2]
    exact hx
theorem PgR.read {w0 w : World} {base : Nat} {v : Value} {ls : List (List (List UInt8))} (h : PgR w0 w base v ls) (hb : Below w0.heap.size w0 w) (hm : ls.length ≤ maxLen) : LLB w v ls := by
  obtain ⟨vs, h1, h2, h3⟩ := h
  exact ⟨vs, SL.own h1 hm, h2, fun i a b => (h3 i a b).below hb⟩

set_option maxRecDepth 100000 in
set_option maxHeartbeats 4000000 in
theorem refPages (v0 : Value) (L : List (List UInt8)) (height : Int) (w : World) (hL : L.length ≤ 200000) (hS0 : SLC w v0 (L.map strV)) (hh : height ≤ 9223372036854775807) :
    Calls Tryd.prog 12 #[v0, .int .i64 height] w fun e w' => ∃ v, e = .returned v ∧ LLB w' v (pagesO (highN height) L) ∧ Below w.heap.size w w' := by
  obtain ⟨i1, hj, hy0, hy1, hy2⟩ := info_parts Tryd.infoP
  obtain ⟨n, hn⟩ : ∃ n, highN height = n := ⟨_, rfl⟩
  have hn1 : 0 < n := by rw [← hn]; unfold highN; omega
  have hni : max height 1 = (n : Int) := by rw [← hn]; unfold highN; omega
  have hnb : n ≤ 9223372036854775807 := by rw [← hn]; unfold highN; omega
  rw [hn]
  obtain ⟨F, hF⟩ : ∃ F, pagesO n L = F := ⟨_, rfl⟩
  have HF := Lib.hid hF
  have HM : Hid (F.length ≤ maxLen) := Lib.hid (by
    rw [← hF]
    have := pages_len n _ L (Nat.le_refl _); unfold maxLen; omega)
  rw [hF]
  have HNi := Lib.hid hni
  have hS := Lib.hid hS0
  obtain ⟨a0, c0, hv0, hc0⟩ := hS0.2
  rw [List.length_map] at hv0 hc0
  subst hv0
  clear hF hn hni hS0
  go_enter Tryd.func12, Tryd.ntmps12
  go_wp2
  rw [HNi.out]
  go_loopw [0, 5] (fun y v wr => ∃ (rest : List (List UInt8)) (pages : List (List (List UInt8))) (a : Option Addr) (c : Nat), y = .slice a rest.length c ∧ rest.length ≤ c ∧ pages.length + rest.length ≤ 200000 ∧ Hid (SLC w y (rest.map strV)) ∧ Hid (PgR w wr w.heap.size v pages) ∧ Hid (Below w.heap.size w wr) ∧ Hid (pages ++ pagesO n rest = F)) (fun y _ _ => match y with | .slice _ k _ => k | _ => 0)
  case atStart => exact ⟨L, [], a0, c0, rfl, hc0, by simp; omega, hS, Lib.hid (PgR.nil _ _ _), Lib.hid (Below.refl _ _), HF⟩
  case round =>
    obtain ⟨rest, pages, a, c, rfl, hrc, hbd, hS, hP, hBl, hFo⟩ := hrel
    obtain ⟨va, vc, hv⟩ := hP.out.shape
    subst hv
    by_cases h0 : 0 < rest.length
    · have hne : rest.map strV ≠ [] := by intro e; have := congrArg List.length e; simp at this; rw [this] at h0; simp at h0
      obtain ⟨b, off, c', hv, hcc, hblt, hcell⟩ := hS.out.shape hne
      have hac : a = some ⟨b, off, none⟩ ∧ c = c' := by simp at hv; exact hv
      obtain ⟨rfl, rfl⟩ := hac
      have hlen : (rest.map strV).length = rest.length := by simp
      have hrm : rest.length ≤ maxLen := by unfold maxLen; omega
      have hbm2 : pages.length + 1 ≤ maxLen ∧ (pages.length + 1) * 24 ≤ 140737488355328 := by unfold maxLen; omega
      have hsz := hBl.out.size
      obtain ⟨vs, hO1, hO2, hO3⟩ := hP.out
      have HO1 := Lib.hid hO1
      have HO3 := Lib.hid hO3
      have HC := Lib.hid hcell
      clear hO1 hO3 hcell hv hne
      by_cases hlt : n < rest.length
      · have HF2 : Hid ((pages ++ [rest.take n]) ++ pagesO n (rest.drop n) = F) := Lib.hid (by rw [List.append_assoc]; have := hFo.out; rw [pages_more hn1 h0] at this; exact this)
        have HT : Hid (SL w (.slice (some ⟨b, off, none⟩) n c) ((rest.take n).map strV)) := Lib.hid (by
          have := SL.take (c := c) hrm hlen hblt HC.out n (by omega)
          rw [List.map_take]; exact this)
        have HR : Hid (SLC w (.slice (some ⟨b, off + n, none⟩) (rest.length - n) (c - n)) ((rest.drop n).map strV)) := Lib.hid (by
          rw [List.map_drop]; exact SLC.drop hrm hlen hrc hblt HC.out n (by omega) (by omega))
        have hdl : (rest.drop n).length = rest.length - n := by simp
        have hnc : n < c := by omega
        have hnc2 : n ≤ c := by omega
        go_wp2_with (at_builtin; refine wpList_append_own _ rfl _ _ 27 rfl w.heap.size 24 i1 (.slice none 0 0) 1 24 Tryd.underlying27 hj hy0 hy1 hy2 rfl (by decide) (.slice va pages.length vc) pages.length vs rfl (HO1.out.alloc _) ⟨wr.heap.size, 0, none⟩ 1 1 [.slice (some ⟨b, off, none⟩) n c] rfl rfl (cell_one_new _ _ _) (ow_one rfl) hbm2.1 hbm2.2 (ow_le hsz _) ?_; intro v6 w6 hown6 hgrow6 _)
        have HP6 : Hid (PgR w w6 w.heap.size v6 (pages ++ [rest.take n])) := Lib.hid (PgR.push hO2 HO3.out HT.out hown6)
        have HB6 : Hid (Below w.heap.size w w6) := Lib.hid ((hBl.out.alloc hsz _).grown hgrow6 (ow_le hsz _) (ow_lo HO1.out))
        clear hown6 hgrow6
        go_roundw
        case rel => exact ⟨rest.drop n, _, _, _, by rw [hdl], by omega, by simp; omega, HR, HP6, HB6, HF2⟩
        case measure => show rest.length - n < rest.length; omega
      · have HF2 : Hid (pages ++ [rest] = F) := Lib.hid (by have := hFo.out; rw [pages_last hn1 h0 (by omega)] at this; exact this)
        go_wp2_with (at_builtin; refine wpList_append_own _ rfl _ _ 27 rfl w.heap.size 24 i1 (.slice none 0 0) 1 24 Tryd.underlying27 hj hy0 hy1 hy2 rfl (by decide) (.slice va pages.length vc) pages.length vs rfl (HO1.out.alloc _) ⟨wr.heap.size, 0, none⟩ 1 1 [.slice (some ⟨b, off, none⟩) rest.length c] rfl rfl (cell_one_new _ _ _) (ow_one rfl) hbm2.1 hbm2.2 (ow_le hsz _) ?_; intro v6 w6 hown6 hgrow6 _)
        have HP6 : Hid (PgR w w6 w.heap.size v6 F) := Lib.hid (by rw [← HF2.out]; exact PgR.push hO2 HO3.out hS.out.1 hown6)
        have HB6 : Hid (Below w.heap.size w w6) := Lib.hid ((hBl.out.alloc hsz _).grown hgrow6 (ow_le hsz _) (ow_lo HO1.out))
        clear hown6 hgrow6
        go_ret
        exact ⟨_, rfl, HP6.out.read HB6.out HM.out, HB6.out⟩
    · have h0' : rest.length = 0 := by omega
      have hFe : Hid (pages = F) := Lib.hid (by have := hFo.out; rw [List.length_eq_zero_iff.1 h0', pages_nil, List.append_nil] at this; exact this)
      have hnn : ¬ n < rest.length := by omega
      go_wp2
      go_ret
      exact ⟨_, rfl, (hFe.out ▸ hP.out : PgR w wr w.heap.size _ F).read hBl.out HM.out, hBl.out⟩
end Go.Proofs.YtfnadieccdgnnaaDoor
