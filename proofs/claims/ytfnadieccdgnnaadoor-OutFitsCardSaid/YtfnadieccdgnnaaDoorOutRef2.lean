/- Contract of clewref44.paragraph. -/
import Derived.Test.YtfnadieccdgnnaaDoorOutRef
namespace Go.Proofs.YtfnadieccdgnnaaDoor
open Go.RowKit Go.PlainAid
set_option linter.unusedVariables false
set_option linter.unusedSimpArgs false

/-- How many bytes the parts have, and one more each. -/
def totO : List (List UInt8) → Nat
  | [] => 0
  | p :: ps => p.length + 1 + totO ps
theorem tot_spl (c : UInt8) : ∀ (l cur : List UInt8), totO (spl c l cur) = l.length + cur.length + 1
  | [], cur => by simp [spl, totO]
  | b :: t, cur => by
    rw [spl]; split
    · rw [totO, tot_spl c t []]; simp; omega
    · rw [tot_spl c t (cur ++ [b])]; simp; omega
theorem tot_drop : ∀ (P : List (List UInt8)) (k : Nat) (h : k < P.length), totO (P.drop k) = P[k].length + 1 + totO (P.drop (k + 1)) := by
  intro P k h
  rw [List.drop_eq_getElem_cons h]; rfl
theorem chop_len (n : Nat) : ∀ (k : Nat) (w : List UInt8), w.length ≤ k → (chopL n w).1.length + (chopL n w).2.length ≤ w.length
  | 0, w, hk => by
    have : w = [] := List.length_eq_zero_iff.1 (by omega)
    subst this; rw [chopL, dif_neg (by simp)]; simp
  | k + 1, w, hk => by
    by_cases h : 0 < n ∧ n < w.length
    · rw [chop_more h.1 h.2]
      have := chop_len n k (w.drop n) (by simp; omega)
      simp at this ⊢; omega
    · rw [chopL, dif_neg h]; simp
theorem chop_le (n : Nat) (hn : 0 < n) : ∀ (k : Nat) (w : List UInt8), w.length ≤ k → (chopL n w).2.length ≤ n
  | 0, w, hk => by rw [chop_end (by omega)]; show w.length ≤ n; omega
  | k + 1, w, hk => by
    by_cases h : n < w.length
    · rw [chop_more hn h]; exact chop_le n hn k (w.drop n) (by simp; omega)
    · rw [chop_end (by omega)]; show w.length ≤ n; omega
/-- A part is a word, or nothing. -/
theorem fold_part (n : Nat) (P : List (List UInt8)) (k : Nat) (h : k < P.length) (st : List (List UInt8) × List UInt8) :
    foldO n ((P.drop k).filter (fun w => !w.isEmpty)) st = if P[k] = [] then foldO n ((P.drop (k + 1)).filter (fun w => !w.isEmpty)) st else foldO n ((P.drop (k + 1)).filter (fun w => !w.isEmpty)) (putO n st P[k]) := by
  rw [List.drop_eq_getElem_cons h, List.filter_cons]
  by_cases e : P[k] = []
  · rw [if_pos e, if_neg (by rw [e]; simp)]
  · rw [if_neg e, if_pos (by cases hp : P[k] with | nil => exact absurd hp e | cons a b => rfl)]; rfl

theorem bl_then {w x y : World} (h : Below w.heap.size w x) (g : Below x.heap.size x y) : Below w.heap.size w y := h.trans (g.mono h.size)
theorem ow_base' {w : World} {base base' : Nat} {v : Value} {L : List (List UInt8)} (h : OwS w base v L) (hb : base' ≤ base) : OwS w base' v L := by
  refine ⟨h.1, h.2.imp id ?_⟩
  rintro ⟨g, cap, cur, e1, e2, rest⟩
  exact ⟨g, cap, cur, e1, Nat.le_trans hb e2, rest⟩
/-- What holds at the head of paragraph's loop. -/
structure PaS (w1 wr : World) (v : Value) (out : List (List UInt8)) : Prop where
  own : OwS wr w1.heap.size v out
  bel : Below w1.heap.size w1 wr
theorem PaS.push {w1 wr w' : World} {v v' : Value} {out : List (List UInt8)} {x : List UInt8} {o : Obj} (h : PaS w1 wr v out) (hg : (wr.alloc o).grownBy w' v.ownBlock)
    (hown : w'.ownsRow w1.heap.size 9 1 v' (out.length + 1) (out.map strV ++ [strV x])) : PaS w1 w' v' (out ++ [x]) :=
  ⟨OwS.snoc hown, bl_g (bl_a h.bel _) hg (ow_lo h.own)⟩

set_option maxRecDepth 100000 in
set_option maxHeartbeats 8000000 in
theorem refPar44 (s : ByteArray) (n : Nat) (w : World) (hs : s.size ≤ 100000) (hn1 : 1 ≤ n) (hn2 : n ≤ 256) :
    Calls Tryd.prog 19 #[.string s, .int .i64 n] w fun e w' => ∃ v, e = .returned v ∧ OwS w' w.heap.size v (parO n (wordsO s.data.toList)) ∧ Below w.heap.size w w' := by
  obtain ⟨i0, hi, hz0, hz1, hz2⟩ := info_parts Tryd.infoStr
  obtain ⟨P, hP⟩ : ∃ P, spl 32 s.data.toList [] = P := ⟨_, rfl⟩
  have htot : totO P = s.size + 1 := by rw [← hP, tot_spl]; simp
  obtain ⟨F, hF⟩ : ∃ F, foldO n (wordsO s.data.toList) ([], []) = F := ⟨_, rfl⟩
  have hres : Hid (parO n (wordsO s.data.toList) = F.1 ++ [F.2] ∧ (F.2 ≠ [] ∨ F.1 = [])) := Lib.hid ⟨by unfold parO; rw [hF], by rw [← hF]; exact fold_ne n _ _ (words_ne _) (.inr rfl)⟩
  have hF0 : Hid (foldO n ((P.drop 0).filter (fun w => !w.isEmpty)) ([], []) = F) := Lib.hid (by rw [← hF, ← hP]; rfl)
  have hsp := Lib.hid (fun w => refSplit44 s 32 w hs)
  rw [hP] at hsp
  have hPl : P.length ≤ s.size + 1 := by rw [← hP]; have := spl_len 32 s.data.toList []; simp at this; exact this
  have HTOT := Lib.hid htot
  clear hP hF htot
  go_enter Tryd.func19, Tryd.ntmps19
  go_wp2_with fail
  refine (hsp.out _).mono ?_
  rintro e w1 ⟨vl, rfl, hol, hb1⟩
  have HB1 := Lib.hid hb1
  have hsl := hol.sl (by unfold maxLen; omega)
  have hPne : 0 < P.length := by
    rcases hsl.2 with ⟨h0, _⟩ | _
    · have := HTOT.out
      cases P with
      | nil => simp [totO] at this
      | cons a t => simp
    · have := HTOT.out
      cases P with
      | nil => simp [totO] at this
      | cons a t => simp
  obtain ⟨b, off, c, hvl, hblt, hcell⟩ : ∃ b off c, vl = .slice (some ⟨b, off, none⟩) P.length c ∧ b < w1.heap.size ∧ ∀ i (h : i < P.length), w1.cell? ⟨b, off + i, none⟩ = some (strV P[i]) := by
    rcases hsl.2 with ⟨h0, _⟩ | ⟨b, off, c, e, h1, h2⟩
    · have := congrArg List.length h0; simp at this; rw [this] at hPne; simp at hPne
    · refine ⟨b, off, c, by rw [e, List.length_map], h1, fun i h => ?_⟩
      have := h2 i (by simpa using h)
      rw [this, List.getElem_map]
  have HC : Hid (∀ wr, Below w1.heap.size w1 wr → ∀ i (h : i < P.length), wr.cell? ⟨b, off + i, none⟩ = some (strV P[i])) := Lib.hid (fun wr hb i h => by rw [hb.cell (p := ⟨b, off + i, none⟩) hblt]; exact hcell i h)
  subst hvl
  clear hol hb1 hsl hcell
  go_wp2_with fail
  go_loopw [5, 6, 8] (fun v l p wr => ∃ (k : Nat) (out : List (List UInt8)) (line : List UInt8), p = .int .i64 k ∧ l = .string (mkB line) ∧ k ≤ P.length ∧ line.length ≤ n ∧ out.length + totO (P.drop k) ≤ s.size + 1 ∧ Hid (PaS w1 wr v out) ∧ Hid (foldO n ((P.drop k).filter (fun w => !w.isEmpty)) (out, line) = F)) (fun _ _ p _ => P.length - (intOf p).toNat)
  case atStart => exact ⟨0, [], [], rfl, rfl, by omega, by simp, by have := HTOT.out; simp; omega, Lib.hid ⟨OwS.nil _ _, Below.refl _ _⟩, hF0⟩
  case round =>
    obtain ⟨k, out, line, rfl, rfl, hk, hll, hbd, hS, hFo⟩ := hrel
    obtain ⟨va, vc, hv⟩ := ow_shape hS.out.own
    subst hv
    have hls : (mkB line).size = line.length := mkB_size line
    have hlt := mkB_toList line
    by_cases hkP : k < P.length
    · have hfp := fold_part n P k hkP (out, line)
      have htd := tot_drop P k hkP
      have hcx := HC.out wr hS.out.bel k hkP
      obtain ⟨x, hx⟩ : ∃ x, P[k] = x := ⟨_, rfl⟩
      rw [hx] at hfp htd hcx
      rw [hFo.out] at hfp
      unfold strV at hcx
      have hxs : (mkB x).size = x.length := mkB_size x
      have hxt := mkB_toList x
      have hbd2 : out.length + (x.length + 1 + totO (P.drop (k + 1))) ≤ s.size + 1 := by omega
      have HBD := Lib.hid hbd2
      have hxl : x.length ≤ s.size := by omega
      have hol : out.length ≤ s.size := by omega
      by_cases hxe : x = []
      · rw [if_pos hxe] at hfp
        have HF2 := Lib.hid hfp.symm
        subst hxe
        clear hfp htd hx hbd hbd2
        go_wp2_with fail
        go_roundw
        case rel => exact ⟨k + 1, out, line, by go_num, rfl, by omega, hll, by have := HBD.out; simp at this; omega, hS, HF2⟩
        case measure => simp [intOf]; omega
      · rw [if_neg hxe] at hfp
        have hxe1 : x.isEmpty = false := by cases x with | nil => exact absurd rfl hxe | cons a b => rfl
        have HXE := Lib.hid hxe
        have HPut := Lib.hid hfp.symm
        clear hfp htd hx hbd hbd2
        by_cases hle : line = []
        · have hput : putO n (out, line) x = (out ++ (chopL n x).1, (chopL n x).2) := by
            unfold putO; rw [if_neg (fun h => h.1 hle), if_neg (fun h => h hle)]
          have HF2 : Hid (foldO n ((P.drop (k + 1)).filter (fun w => !w.isEmpty)) (out ++ (chopL n x).1, (chopL n x).2) = F) := Lib.hid (by rw [← hput]; exact HPut.out)
          subst hle
          clear hput HPut hxe
          go_wp2_with fail
          obtain ⟨wo, hwo⟩ : ∃ wo, wr = wo := ⟨_, rfl⟩
          have HW0 := hS
          rw [hwo] at HW0 ⊢
          clear hwo
          have hbi : (out).length + x.length ≤ s.size + 1 := by have := HBD.out; (try simp); omega
          go_loopw [5, 9] (fun v y wr2 => ∃ (out2 : List (List UInt8)) (z : List UInt8), y = .string (mkB z) ∧ out2.length + z.length ≤ s.size + 1 ∧ Hid (PaS w1 wr2 v out2) ∧ Hid (out2 ++ (chopL n z).1 = out ++ (chopL n x).1 ∧ (chopL n z).2 = (chopL n x).2)) (fun _ y _ => match y with | .string q => q.size | _ => 0)
          case atStart => exact ⟨_, x, rfl, hbi, HW0, Lib.hid ⟨rfl, rfl⟩⟩
          case round =>
            obtain ⟨out2, z, rfl, hb2, hS2, hZ⟩ := hrel
            obtain ⟨va2, vc2, hv2⟩ := ow_shape hS2.out.own
            subst hv2
            have hzs : (mkB z).size = z.length := mkB_size z
            by_cases hnz : n < z.length
            · have hzc : Hid ((out2 ++ [z.take n]) ++ (chopL n (z.drop n)).1 = out ++ (chopL n x).1 ∧ (chopL n (z.drop n)).2 = (chopL n x).2) := Lib.hid (by
                have := hZ.out
                rw [chop_more (by omega) hnz] at this
                rw [List.append_assoc]; exact this)
              have he1 : Hid ((mkB z).extract 0 n = mkB (z.take n)) := Lib.hid (by rw [by_cut]; rfl)
              have he2 : Hid ((mkB z).extract n z.length = mkB (z.drop n)) := Lib.hid (by rw [by_cut]; show mkB ((z.drop n).take (z.length - n)) = _; rw [List.take_of_length_le (by simp)])
              have hbm : out2.length + 1 ≤ maxLen ∧ (out2.length + 1) * 16 ≤ 140737488355328 := by unfold maxLen; omega
              have hsz2 := hS2.out.bel.size
              go_wp2_with (at_builtin; refine wpList_append_own _ rfl _ _ 24 rfl w1.heap.size 9 i0 (.string ByteArray.empty) 1 16 Tryd.underlying24 hi hz0 hz1 hz2 rfl (by decide) _ _ _ rfl (hS2.out.own.alloc _) ⟨wr.heap.size, 0, none⟩ 1 1 [.string ((mkB z).extract 0 n)] rfl rfl (cell_one_new _ _ _) (ow_one rfl) hbm.1 hbm.2 (ow_le hsz2 _) ?_; intro v5 w5 hown5 hgrow5 _)
              rw [he1.out] at hown5
              have HS5 := Lib.hid (hS2.out.push (x := z.take n) hgrow5 hown5)
              clear hown5 hgrow5
              go_wp2
              go_roundw
              case rel => exact ⟨_, z.drop n, congrArg Value.string he2.out, by simp; omega, HS5, hzc⟩
              case measure => simp; omega
            · have hzz : Hid (out2 = out ++ (chopL n x).1 ∧ z = (chopL n x).2) := Lib.hid (by
                have := hZ.out
                rw [chop_end (by omega), List.append_nil] at this; exact this)
              have hcl := chop_len n _ x (Nat.le_refl _)
              have hcn := chop_le n (by omega) _ x (Nat.le_refl _)
              go_wp2
              go_roundw
              case rel => exact ⟨k + 1, out ++ (chopL n x).1, (chopL n x).2, by go_num, by rw [← hzz.out.2], by omega, hcn, by have := HBD.out; simp; omega, by rw [← hzz.out.1]; exact hS2, HF2⟩
              case measure => simp [intOf]; omega
        · have hlne : line.isEmpty = false := by cases line with | nil => exact absurd rfl hle | cons a b => rfl
          have hlE := Lib.hid hle
          by_cases hfit : line.length + 1 + x.length ≤ n
          · have hput : putO n (out, line) x = (out, line ++ 32 :: x) := by
              unfold putO; rw [if_pos ⟨hle, hfit⟩]
            have HF2 : Hid (foldO n ((P.drop (k + 1)).filter (fun w => !w.isEmpty)) (out, line ++ 32 :: x) = F) := Lib.hid (by rw [← hput]; exact HPut.out)
            have hcat : Hid (mkB line ++ ⟨#[32]⟩ ++ mkB x = mkB (line ++ 32 :: x)) := Lib.hid (by
              have : (⟨#[32]⟩ : ByteArray) = mkB [32] := rfl
              rw [this, mkB_app, mkB_app]; simp)
            have hdd : decide ((line.length : Int) + 1 + (x.length : Int) ≤ (n : Int)) = true := by simp; omega
            clear hput HPut hle hxe
            go_wp2
            go_roundw
            case rel => exact ⟨k + 1, out, line ++ 32 :: x, by go_num, congrArg Value.string hcat.out, by omega, by simp; omega, by have := HBD.out; omega, hS, HF2⟩
            case measure => simp [intOf]; omega
          · have hput : putO n (out, line) x = (out ++ [line] ++ (chopL n x).1, (chopL n x).2) := by
              unfold putO; rw [if_neg (fun h => hfit h.2), if_pos hle]
            have HF2 : Hid (foldO n ((P.drop (k + 1)).filter (fun w => !w.isEmpty)) (out ++ [line] ++ (chopL n x).1, (chopL n x).2) = F) := Lib.hid (by rw [← hput]; exact HPut.out)
            have hdd : decide ((line.length : Int) + 1 + (x.length : Int) ≤ (n : Int)) = false := by simp; omega
            have hbm0 : out.length + 1 ≤ maxLen ∧ (out.length + 1) * 16 ≤ 140737488355328 := by unfold maxLen; omega
            have hsz0 := hS.out.bel.size
            clear hput HPut hle hxe
            go_wp2_with (at_builtin; refine wpList_append_own _ rfl _ _ 24 rfl w1.heap.size 9 i0 (.string ByteArray.empty) 1 16 Tryd.underlying24 hi hz0 hz1 hz2 rfl (by decide) _ _ _ rfl (hS.out.own.alloc _) ⟨wr.heap.size, 0, none⟩ 1 1 [.string (mkB line)] rfl rfl (cell_one_new _ _ _) (ow_one rfl) hbm0.1 hbm0.2 (ow_le hsz0 _) ?_; intro v4 w4 hown4 hgrow4 _)
            have HS4 := Lib.hid (hS.out.push (x := line) hgrow4 hown4)
            clear hown4 hgrow4
            obtain ⟨wo, hwo⟩ : ∃ wo, w4 = wo := ⟨_, rfl⟩
            have HW0 := HS4
            rw [hwo] at HW0 ⊢
            clear hwo
            have hbi : ((out ++ [line])).length + x.length ≤ s.size + 1 := by have := HBD.out; (try simp); omega
            go_loopw [5, 9] (fun v y wr2 => ∃ (out2 : List (List UInt8)) (z : List UInt8), y = .string (mkB z) ∧ out2.length + z.length ≤ s.size + 1 ∧ Hid (PaS w1 wr2 v out2) ∧ Hid (out2 ++ (chopL n z).1 = (out ++ [line]) ++ (chopL n x).1 ∧ (chopL n z).2 = (chopL n x).2)) (fun _ y _ => match y with | .string q => q.size | _ => 0)
            case atStart => exact ⟨_, x, rfl, hbi, HW0, Lib.hid ⟨rfl, rfl⟩⟩
            case round =>
              obtain ⟨out2, z, rfl, hb2, hS2, hZ⟩ := hrel
              obtain ⟨va2, vc2, hv2⟩ := ow_shape hS2.out.own
              subst hv2
              have hzs : (mkB z).size = z.length := mkB_size z
              by_cases hnz : n < z.length
              · have hzc : Hid ((out2 ++ [z.take n]) ++ (chopL n (z.drop n)).1 = (out ++ [line]) ++ (chopL n x).1 ∧ (chopL n (z.drop n)).2 = (chopL n x).2) := Lib.hid (by
                  have := hZ.out
                  rw [chop_more (by omega) hnz] at this
                  rw [List.append_assoc]; exact this)
                have he1 : Hid ((mkB z).extract 0 n = mkB (z.take n)) := Lib.hid (by rw [by_cut]; rfl)
                have he2 : Hid ((mkB z).extract n z.length = mkB (z.drop n)) := Lib.hid (by rw [by_cut]; show mkB ((z.drop n).take (z.length - n)) = _; rw [List.take_of_length_le (by simp)])
                have hbm : out2.length + 1 ≤ maxLen ∧ (out2.length + 1) * 16 ≤ 140737488355328 := by unfold maxLen; omega
                have hsz2 := hS2.out.bel.size
                go_wp2_with (at_builtin; refine wpList_append_own _ rfl _ _ 24 rfl w1.heap.size 9 i0 (.string ByteArray.empty) 1 16 Tryd.underlying24 hi hz0 hz1 hz2 rfl (by decide) _ _ _ rfl (hS2.out.own.alloc _) ⟨wr.heap.size, 0, none⟩ 1 1 [.string ((mkB z).extract 0 n)] rfl rfl (cell_one_new _ _ _) (ow_one rfl) hbm.1 hbm.2 (ow_le hsz2 _) ?_; intro v5 w5 hown5 hgrow5 _)
                rw [he1.out] at hown5
                have HS5 := Lib.hid (hS2.out.push (x := z.take n) hgrow5 hown5)
                clear hown5 hgrow5
                go_wp2
                go_roundw
                case rel => exact ⟨_, z.drop n, congrArg Value.string he2.out, by simp; omega, HS5, hzc⟩
                case measure => simp; omega
              · have hzz : Hid (out2 = (out ++ [line]) ++ (chopL n x).1 ∧ z = (chopL n x).2) := Lib.hid (by
                  have := hZ.out
                  rw [chop_end (by omega), List.append_nil] at this; exact this)
                have hcl := chop_len n _ x (Nat.le_refl _)
                have hcn := chop_le n (by omega) _ x (Nat.le_refl _)
                go_wp2
                go_roundw
                case rel => exact ⟨k + 1, (out ++ [line]) ++ (chopL n x).1, (chopL n x).2, by go_num, by rw [← hzz.out.2], by omega, hcn, by have := HBD.out; simp; omega, by rw [← hzz.out.1]; exact hS2, HF2⟩
                case measure => simp [intOf]; omega
    · have hke : P.drop k = [] := List.drop_eq_nil_of_le (by omega)
      have hFe : Hid ((out, line) = F) := Lib.hid (by have := hFo.out; rw [hke] at this; exact this)
      have hr1 : Hid (parO n (wordsO s.data.toList) = out ++ [line] ∧ (line ≠ [] ∨ out = [])) := Lib.hid (by have := hres.out; rw [← hFe.out] at this; exact this)
      have hbm0 : out.length + 1 ≤ maxLen ∧ (out.length + 1) * 16 ≤ 140737488355328 := by unfold maxLen; omega
      have hsz0 := hS.out.bel.size
      have hkP' : ¬ (k : Int) < (P.length : Int) := by omega
      have HRes := Lib.hid (fun (w4 : World) (v4 : Value) (h : PaS w1 w4 v4 (out ++ [line])) => (show OwS w4 w.heap.size v4 (parO n (wordsO s.data.toList)) ∧ Below w.heap.size w w4 from ⟨by rw [hr1.out.1]; exact ow_base' h.own HB1.out.size, bl_then HB1.out h.bel⟩))
      clear hke hbd
      by_cases hle : line = []
      · have hoe : out = [] := by rcases hr1.out.2 with h | h; exact absurd hle h; exact h
        subst hle
        subst hoe
        go_wp2_with (at_builtin; refine wpList_append_own _ rfl _ _ 24 rfl w1.heap.size 9 i0 (.string ByteArray.empty) 1 16 Tryd.underlying24 hi hz0 hz1 hz2 rfl (by decide) _ _ _ rfl (hS.out.own.alloc _) ⟨wr.heap.size, 0, none⟩ 1 1 [.string (mkB [])] rfl rfl (cell_one_new _ _ _) (ow_one rfl) hbm0.1 hbm0.2 (ow_le hsz0 _) ?_; intro v4 w4 hown4 hgrow4 _)
        go_ret
        exact ⟨_, rfl, HRes.out _ _ (hS.out.push (x := []) hgrow4 hown4)⟩
      · have hlne : line.isEmpty = false := by cases line with | nil => exact absurd rfl hle | cons a b => rfl
        clear hle
        go_wp2_with (at_builtin; refine wpList_append_own _ rfl _ _ 24 rfl w1.heap.size 9 i0 (.string ByteArray.empty) 1 16 Tryd.underlying24 hi hz0 hz1 hz2 rfl (by decide) _ _ _ rfl (hS.out.own.alloc _) ⟨wr.heap.size, 0, none⟩ 1 1 [.string (mkB line)] rfl rfl (cell_one_new _ _ _) (ow_one rfl) hbm0.1 hbm0.2 (ow_le hsz0 _) ?_; intro v4 w4 hown4 hgrow4 _)
        go_ret
        exact ⟨_, rfl, HRes.out _ _ (hS.out.push (x := line) hgrow4 hown4)⟩
end Go.Proofs.YtfnadieccdgnnaaDoor
