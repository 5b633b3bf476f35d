/- Contract of out.paragraph. -/
import Derived.Test.YtfnadieccdgnnaaDoorOutPut
import Derived.Test.YtfnadieccdgnnaaDoorOutRef3
import Derived.Test.YtfnadieccdgnnaaDoorOutCut
import Derived.Test.YtfnadieccdgnnaaDoorShelf
import Derived.WalkMore
namespace Go.Proofs.YtfnadieccdgnnaaDoor
open Go.RowKit Go.PlainAid
set_option linter.unusedVariables false
set_option linter.unusedSimpArgs false

theorem outTrim (l : List UInt8) (w : World) : Calls Tryd.prog 24 #[.string (mkB l), .string ⟨#[32]⟩] w fun e w' => e = .returned (.string (mkB (Lib.trimLeftB l 32))) ∧ w = w' :=
  (Tryd.strings_TrimLeft_one (mkB l) 32 (by decide) w).mono fun _ _ ⟨h, h2⟩ => ⟨h, h2.symm⟩
theorem outCutB (l : List UInt8) (c : UInt8) (m : Int) (w : World) (hs : l.length ≤ 200000) (hm : w.cell? ⟨0, 0, none⟩ = some (.int .i64 m)) :
    Calls Tryd.prog 15 #[.string (mkB l), .string ⟨#[c]⟩] w fun e w' => e = .returned (.tuple #[.string (mkB (Lib.cut l [c]).1), .string (mkB (Lib.cut l [c]).2.1), .bool (Lib.cut l [c]).2.2]) ∧ ∃ n, w' = w.drewN n :=
  Tryd.strings_Cut (mkB l) ⟨#[c]⟩ m w (by rw [mkB_size]; omega) hm

def newW (w : World) (n : Nat) : World := ((w.alloc (.cells #[.int .i64 n] 3)).alloc (.cells #[.slice none 0 0] 24)).alloc (.cells #[.string ⟨#[]⟩] 9)
theorem PuS.new (w : World) (n : Nat) : PuS (newW w n) w.heap.size n (.slice none 0 0) [] [] := by
  have e2 : (w.alloc (.cells #[.int .i64 n] 3)).heap.size = w.heap.size + 1 := by simp
  have e3 : ((w.alloc (.cells #[.int .i64 n] 3)).alloc (.cells #[.slice none 0 0] 24)).heap.size = w.heap.size + 2 := by simp
  have h1 := BK.new w [.int .i64 n] 3
  have h2 := BK.new (w.alloc (.cells #[.int .i64 n] 3)) [.slice none 0 0] 24
  rw [e2] at h2
  have h3 := BK.new ((w.alloc (.cells #[.int .i64 n] 3)).alloc (.cells #[.slice none 0 0] 24)) [strV []] 9
  rw [e3] at h3
  exact ⟨by simp [newW], ((h1.alloc _).alloc _), (h2.alloc _), h3, OwS.nil _ _⟩
theorem OwS.lower {w : World} {base base' : Nat} {v : Value} {L : List (List UInt8)} (h : OwS w base v L) (hb : base' ≤ base) : OwS w base' v L := by
  refine ⟨h.1, ?_⟩
  rcases h.2 with h0 | ⟨g, cap, cur, h1, h2, h3⟩
  · exact .inl h0
  · exact .inr ⟨g, cap, cur, h1, by omega, h3⟩
theorem bl_drewN2 {B m : Nat} {a w : World} (h : Below B (a.drewN m) w) : Below B a w := ⟨h.os, h.tape, h.output, h.size, h.block⟩
theorem newW_below (w : World) (n : Nat) : Below w.heap.size w (newW w n) := bl_a (bl_a (bl_a (Below.refl _ _) _) _) _

set_option maxRecDepth 100000 in
set_option maxHeartbeats 8000000 in
theorem outPar (s : ByteArray) (n : Nat) (m : Int) (w : World) (hs : s.size ≤ 100000) (hn1 : 1 ≤ n) (hn2 : n ≤ 256) (hm : w.cell? ⟨0, 0, none⟩ = some (.int .i64 m)) (h0 : 0 < w.heap.size) :
    Calls Tryd.prog 16 #[.string s, .int .i64 n] w fun e w' => ∃ v, e = .returned v ∧ OwS w' w.heap.size v (parO n (wordsO s.data.toList)) ∧ Below w.heap.size w w' := by
  obtain ⟨i0, hi, hz0, hz1, hz2⟩ := info_parts Tryd.infoStr
  have hmf : ∀ (fn : Fn) (first cap : Array Value) (w : World), (Instr.makeFunc fn first cap).run Tryd.prog w = .ok (.func fn first cap) w := fun _ _ _ _ => rfl
  obtain ⟨l0, hl0⟩ : ∃ l0, s.data.toList = l0 := ⟨_, rfl⟩
  have hsb : s = mkB l0 := by rw [← hl0]; exact (mkB_of s).symm
  have hll0 : l0.length ≤ 100000 := by rw [← hl0, by_len]; exact hs
  rw [hl0]
  clear hl0
  subst hsb
  have hPn := Lib.hid (PuS.new w n)
  obtain ⟨F, hF⟩ : ∃ F, foldO n (wordsO l0) ([], []) = F := ⟨_, rfl⟩
  have HF := Lib.hid hF
  have HRes : Hid (parO n (wordsO l0) = F.1 ++ [F.2]) := Lib.hid (by unfold parO; rw [hF])
  clear hF
  go_enter Tryd.func16, Tryd.ntmps16
  go_wp2
  go_step3
  go_wp2
  go_step3
  go_wp2_with fail
  rw [show w.heap.size + 1 + 1 = w.heap.size + 2 from rfl]
  have HB0 := Lib.hid (newW_below w n)
  obtain ⟨w1, hw1⟩ : ∃ w1, newW w n = w1 := ⟨_, rfl⟩
  rw [hw1] at hPn HB0
  unfold newW at hw1
  rw [hw1]
  clear hw1
  obtain ⟨B, hB⟩ : ∃ B, w.heap.size = B := ⟨_, rfl⟩
  rw [hB] at hPn HB0 h0 ⊢
  go_loopw [8] (fun y wr => ∃ (l : List UInt8) (v : Value) (out : List (List UInt8)) (line : List UInt8), y = .string (mkB l) ∧ line.length ≤ n ∧ out.length + l.length ≤ 100000 ∧ Hid (PuS wr B n v line out) ∧ Hid (Below B w wr) ∧ Hid (foldO n (wordsO l) (out, line) = F)) (fun y _ => match y with | .string q => q.size | _ => 0)
  case atStart => exact ⟨l0, _, [], [], rfl, by simp, by simp; omega, hPn, HB0, HF⟩
  case round =>
    obtain ⟨l, v, out, line, rfl, hll, hbd, hS, hBl, hFo⟩ := hrel
    obtain ⟨t, ht⟩ : ∃ t, Lib.trimLeftB l 32 = t := ⟨_, rfl⟩
    have htw : wordsO t = wordsO l := by rw [← ht]; exact trim_words l
    have hth : t.head? ≠ some 32 := by rw [← ht]; exact trim_head l
    have htl : t.length ≤ l.length := by rw [← ht]; exact trim_len l
    have HTr := Lib.hid (fun w => outTrim l w)
    rw [ht] at HTr
    have htt := mkB_toList t
    have HF1 : Hid (foldO n (wordsO t) (out, line) = F) := Lib.hid (by rw [htw]; exact hFo.out)
    clear ht htw
    by_cases hte : t = []
    · have hFe : Hid ((out, line) = F) := Lib.hid (by have := HF1.out; rw [hte, words_nil] at this; exact this)
      have hte1 : t.isEmpty = true := by rw [hte]; rfl
      obtain ⟨va, vc, hv⟩ := ow_shape hS.out.own
      subst hv
      have co := hS.out.bo.cell 0
      have cl := hS.out.bl.cell 0
      have hsz2 := hS.out.size
      simp only [List.getElem?_cons_zero] at co cl
      unfold strV at cl
      have hbm : out.length + 1 ≤ maxLen ∧ (out.length + 1) * 16 ≤ 140737488355328 := by unfold maxLen; omega
      clear hte hth
      go_wp2_with (first
        | (go_at_call 24; refine (HTr.out _).mono ?_; rintro e w' ⟨rfl, rfl⟩)
        | (at_builtin; refine wpList_append_own _ rfl _ _ 24 rfl (B + 3) 9 i0 (.string ByteArray.empty) 1 16 Tryd.underlying24 hi hz0 hz1 hz2 rfl (by decide) _ _ _ rfl (hS.out.own.alloc _) ⟨wr.heap.size, 0, none⟩ 1 1 [.string (mkB line)] rfl rfl (cell_one_new _ _ _) (ow_one rfl) hbm.1 hbm.2 (ow_le hsz2 _) ?_; intro v5 w5 hown5 hgrow5 _))
      (try rw [Exit.noGoto_ret])
      obtain ⟨a5, c5, hv5⟩ := ow_shape hown5
      subst hv5
      go_ret
      refine ⟨_, rfl, ?_, ?_⟩
      · rw [HRes.out, ← hFe.out]
        exact (show OwS w5 (B + 3) _ (out ++ [line]) from OwS.snoc hown5).lower (by omega)
      · rw [hB]; exact (bB_a hBl.out (by omega) _).grown hgrow5 (by rw [World.size_alloc]; omega) (fun j hj => by have := ow_lo hS.out.own j hj; omega)
    · have hte1 : t.isEmpty = false := by cases t with | nil => exact absurd rfl hte | cons a b => rfl
      obtain ⟨hx1, hx2, hx3⟩ := cut_words t hte hth
      have hmr : wr.cell? ⟨0, 0, none⟩ = some (.int .i64 m) := (hBl.out.cell (p := ⟨0, 0, none⟩) h0).trans hm
      have HCut := Lib.hid (fun w hm => outCutB t 32 m w (by omega) hm)
      obtain ⟨x, hx⟩ : ∃ x, (Lib.cut t [32]).1 = x := ⟨_, rfl⟩
      obtain ⟨r, hr⟩ : ∃ r, (Lib.cut t [32]).2.1 = r := ⟨_, rfl⟩
      obtain ⟨ok, hok⟩ : ∃ r, (Lib.cut t [32]).2.2 = r := ⟨_, rfl⟩
      rw [hx, hr, hok] at HCut
      rw [hx] at hx1 hx2 hx3
      rw [hr] at hx2 hx3
      have hcl := chop_le n (by omega) _ x (Nat.le_refl _)
      have hcn := chop_len n _ x (Nat.le_refl _)
      have hxp : 0 < x.length := List.length_pos_iff.2 hx1
      have hputl : (putO n (out, line) x).2.length ≤ n ∧ (putO n (out, line) x).1.length ≤ out.length + x.length := ⟨by
        unfold putO; split
        · rename_i h; have h2 : line.length + 1 + x.length ≤ n := h.2; simp; omega
        · exact hcl, put_len n (out, line) x hx1⟩
      have HF2 : Hid (foldO n (wordsO r) (putO n (out, line) x) = F) := Lib.hid (by have := HF1.out; rw [hx2] at this; exact this)
      have HPut := Lib.hid (fun w h => outPut B n v line x out w hn1 hn2 h hll (by omega))
      clear hx hr hok hte hth hx1 hx2 hcl hcn
      go_wp2_with (first
        | (go_at_call 24; refine (HTr.out _).mono ?_; rintro e w' ⟨rfl, rfl⟩)
        | (go_at_call 15; refine (HCut.out _ hmr).mono ?_; rintro e w2 ⟨rfl, nn, rfl⟩)
        | (go_at_call 23; refine (HPut.out _ (hS.out.drew _)).mono ?_; rintro e w3 ⟨rfl, v3, hS3, hB3⟩))
      go_roundw
      case rel => exact ⟨r, v3, _, _, rfl, hputl.1, by have := hputl.2; omega, Lib.hid hS3, Lib.hid (hBl.out.trans (bl_drewN2 hB3)), HF2⟩
      case measure => show (mkB r).size < (mkB l).size; rw [mkB_size, mkB_size]; omega
end Go.Proofs.YtfnadieccdgnnaaDoor
