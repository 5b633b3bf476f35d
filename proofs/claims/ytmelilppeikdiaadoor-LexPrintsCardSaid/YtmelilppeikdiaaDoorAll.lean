/- lex.All. -/
import Derived.Test.YtmelilppeikdiaaDoorToken
import Derived.Test.YtmelilppeikdiaaDoorAllPlain
import Derived.Test.YtmelilppeikdiaaDoorMem
import Derived.Deep.RegionHeld3
import Derived.Deep.AppendLies
namespace Go.Proofs.YtmelilppeikdiaaDoor
open Go.RowKit Go.PlainAid
set_option linter.unusedVariables false
set_option linter.unusedSimpArgs false

def tokCells (x : TT) : List Value := [.int .i64 x.t.kind, .string (mkB x.t.text), .int .i64 x.t.num, .int .i64 x.l, .int .i64 x.c]
def tokRows (l : List TT) : List (List Value) := l.map tokCells
theorem tokRows_len (l : List TT) : ∀ r ∈ tokRows l, r.length = 5 := by
  intro r hr
  obtain ⟨x, _, rfl⟩ := List.mem_map.1 hr
  rfl
theorem Tryd.infoT : (Tryd.prog.info? 25).map (fun i => (i.zero, i.size, i.bytes)) = some (some (.agg #[.int .i64 0, .string ByteArray.empty, .int .i64 0, .int .i64 0, .int .i64 0]), 5, 48) := by kernel_rfl

/-- What holds at the head of All's loop. -/
structure AlS (w wr : World) (s : ByteArray) (k : Nat) (v : Value) (out : List TT) : Prop where
  rd : RD wr (w.heap.size + 1) s k 0 0 0
  own : wr.ownsRow (w.heap.size + 2) 25 5 v out.length (tokRows out).flatten
  fail : BK wr w.heap.size [.int .i64 0, .int .i64 0, .int .i64 0] 31
  bel : Below w.heap.size w wr

theorem AlS.keep {w wr w' : World} {s : ByteArray} {k k' : Nat} {v : Value} {out : List TT} (h : AlS w wr s k v out) (hr : RD w' (w.heap.size + 1) s k' 0 0 0) (hg : wr.grownBy w' (some (w.heap.size + 1))) : AlS w w' s k' v out :=
  ⟨hr, ow_grown h.own hg (fun j hj => by simp at hj; omega), h.fail.kept hg (fun j hj => by simp at hj; omega), h.bel.grown hg h.bel.size (fun j hj => by simp at hj; omega)⟩

theorem results_tmp_cell {fn : Func} {p u : Tmp} {ty : TypeId} (h : fn.results = #[.tmp u, .cell p ty]) (tmps : Array Value) (P : Program) (w : World) :
    (results fn tmps).run P w = (((asAddr (tmps.getD p undef)).run P w).andThen fun a w₁ => (loadVar ty a).run P w₁).andThen fun x w₂ => .ok (.tuple #[tmps.getD u undef, x]) w₂ := by
  simp only [results, h]
  simp [Sem.run_bind, Result.andThen]
  generalize Sem.run P (asAddr _) w = r
  cases r <;> rfl

/-- The state at the head of the next round, behind a token that is kept. -/
theorem AlS.next {w w2 w' : World} {s : ByteArray} {k : Nat} {v v' : Value} {out : List TT} {x : TT} {o1 o2 : Obj} (h : AlS w w2 s k v out) (hg : ((w2.alloc o1).alloc o2).grownBy w' v.ownBlock)
    (hown : w'.ownsRow (w.heap.size + 2) 25 5 v' (out.length + 1) ((tokRows out).flatten ++ tokCells x)) : AlS w w' s k v' (out ++ [x]) := by
  have hlo : ∀ j, v.ownBlock = some j → w.heap.size + 2 ≤ j := ow_lo h.own
  have h1 : w2.grownBy w' v.ownBlock := gr_trans (gr_alloc _ _ _) (gr_trans (gr_alloc _ _ _) hg)
  refine ⟨h.rd.grown h1 (fun j hj => by have := hlo j hj; omega), ?_, h.fail.kept h1 (fun j hj => by have := hlo j hj; omega), h.bel.grown h1 h.bel.size (fun j hj => by have := hlo j hj; omega)⟩
  simpa [tokRows] using hown

theorem tok_news (w2 : World) (x : TT) (o1 : Obj) : ∀ j u, (tokCells x)[j]? = some u → ((w2.alloc o1).alloc (.cells #[.int .i64 x.t.kind, .string (mkB x.t.text), .int .i64 x.t.num, .int .i64 x.l, .int .i64 x.c] 25)).cell? ((⟨w2.heap.size + 1, 0, none⟩ : Addr).add j) = some u := by
  have h := news_lit (w2.alloc o1) (tokCells x) 25
  rw [World.size_alloc] at h
  exact h
theorem tok_news1 (w2 : World) (x : TT) : ∀ j u, (tokCells x)[j]? = some u → ((w2.alloc (.cells #[.int .i64 x.t.kind, .string (mkB x.t.text), .int .i64 x.t.num, .int .i64 x.l, .int .i64 x.c] 25)).drew).cell? ((⟨w2.heap.size, 0, none⟩ : Addr).add j) = some u :=
  news_lit w2 (tokCells x) 25
theorem tok_one (x : TT) : ∀ u ∈ tokCells x, u.oneCell' = true := by
  intro u hu
  simp only [tokCells, List.mem_cons, List.not_mem_nil, or_false] at hu
  rcases hu with rfl | rfl | rfl | rfl | rfl <;> rfl

set_option maxRecDepth 100000 in
set_option maxHeartbeats 8000000 in
theorem lexAll_fits (s : ByteArray) (m : Int) (w : World) (hs : s.size ≤ 65536) (hm : w.cell? ⟨0, 0, none⟩ = some (.int .i64 m)) :
    Calls Tryd.prog 10 #[.string s] w fun e' w' => ∃ v, e' = .returned (.tuple #[v, .agg #[.int .i64 (allR s).err, .int .i64 (allR s).fl, .int .i64 (allR s).fc]]) ∧ SLN 5 w' v (tokRows (allR s).toks) ∧ Below w.heap.size w w' := by
  obtain ⟨i0, hi, hz0, hz1, hz2⟩ := info_parts Tryd.infoT
  have hw0 : 0 < w.heap.size := by have := lt_cell hm; omega
  have HM := Lib.hid hm
  clear hm
  obtain ⟨A, hA⟩ : ∃ A, allR s = A := ⟨_, rfl⟩
  rw [hA]
  have HA : Hid (allA s (s.size + 1) 0 [] = A) := Lib.hid (by rw [← hA, allR, if_neg (by omega)])
  clear hA
  go_enter Tryd.func10, Tryd.ntmps10
  go_wp2_with fail
  have HS : Hid (AlS w ((w.alloc (.cells #[.int .i64 0, .int .i64 0, .int .i64 0] 31)).alloc (.cells #[.string s, .int .i64 0, .int .i64 1, .int .i64 1, .int .i64 0, .int .i64 0, .int .i64 0] 51)) s 0 (.slice none 0 0) []) := Lib.hid (by
    have hb := BK.new (w.alloc (.cells #[.int .i64 0, .int .i64 0, .int .i64 0] 31)) [.string s, .int .i64 0, .int .i64 1, .int .i64 1, .int .i64 0, .int .i64 0, .int .i64 0] 51
    rw [World.size_alloc] at hb
    refine ⟨⟨hb.lt, by omega, by omega, hb.cell 0, hb.cell 1, hb.cell 2, hb.cell 3, hb.cell 4, hb.cell 5, hb.cell 6, hb.fr 1, hb.fr 2, hb.fr 3, hb.fr 4, hb.fr 5, hb.fr 6⟩, World.ownsRow_nil _ _ _ _, ?_, ?_⟩
    · exact (BK.new w [.int .i64 0, .int .i64 0, .int .i64 0] 31).alloc _
    · exact ((Below.refl _ _).alloc (Nat.le_refl _) _).alloc (by rw [World.size_alloc]; omega) _)
  go_step3
  go_wp2_with fail
  go_step3
  go_wp2_with fail
  go_loopw [4] (fun v wr => ∃ (k f : Nat) (out : List TT), out.length ≤ 16384 ∧ s.size - k < f ∧ Hid (AlS w wr s k v out) ∧ Hid (allA s f k out = A)) (fun _ wr => s.size - (intOf ((wr.cell? ⟨w.heap.size + 1, 1, none⟩).getD default)).toNat)
  case atStart => exact ⟨0, s.size + 1, [], by simp, by omega, HS, HA⟩
  case round =>
    obtain ⟨k, f, out, hol, hf, hS, hX⟩ := hrel
    obtain ⟨f, rfl⟩ : ∃ g, f = g + 1 := ⟨f - 1, by omega⟩
    have hX1 : Hid (restA s f (k + (gapL (sfx s k) false).1) (gapL (sfx s k) false).2 out = A) := Lib.hid (by rw [← allA_succ]; exact hX.out)
    have hFt := Lib.hid (gap_fault_s s k)
    obtain ⟨va, vc, hv⟩ := ow_shape hS.out.own
    subst hv
    have hk1 := hS.out.rd.c1
    have hkle := hS.out.rd.le
    clear hX
    go_wp2_with fail
    refine (lexSkip (w.heap.size + 1) s k _ hS.out.rd).mono ?_
    rintro e' w1 ⟨rfl, hSk, hG1⟩
    obtain ⟨q, hq⟩ : ∃ q, k + (gapL (sfx s k) false).1 = q := ⟨_, rfl⟩
    obtain ⟨ok, hok⟩ : ∃ ok, (gapL (sfx s k) false).2 = ok := ⟨_, rfl⟩
    rw [hq, hok] at hX1 hSk hFt
    have hkq : k ≤ q := by omega
    have HG1 := Lib.hid hG1
    clear hG1 hq hok
    have HB1 : Hid (Below w.heap.size w w1) := Lib.hid (hS.out.bel.grown HG1.out hS.out.bel.size (fun j hj => by simp at hj; omega))
    have HF := Lib.hid (hS.out.fail.kept HG1.out (fun j hj => by simp at hj; omega))
    have hFlt := HF.out.lt
    rcases hSk with hR1 | ⟨hok, hR1⟩
    · have HS1 := Lib.hid (hS.out.keep hR1 HG1.out)
      have d1 := hR1.c1
      have d2 := hR1.c2
      have d3 := hR1.c3
      have d4 := hR1.c4
      have hql := hR1.le
      have hRlt := hR1.blk
      have HR1 := Lib.hid hR1
      clear hR1
      by_cases hqs : q < s.size
      · have hE1 : ((q : Int) == (s.size : Int)) = false := by simp; omega
        have hm1 := HM.out
        rw [← HB1.out.cell (p := ⟨0, 0, none⟩) hw0] at hm1
        have HM1 := Lib.hid hm1
        clear hm1
        go_wp2_with fail
        go_quiet (fail)
        go_wp2_with fail
        refine (lexToken (w.heap.size + 1) s q m _ (HR1.out.drewN _) hqs (by omega) HM1.out).mono ?_
        rintro e' w2 ⟨v, e, rfl, hT, hG2⟩
        clear d1 d2 d3 d4
        have HG2 : Hid (w1.grownBy w2 (some (w.heap.size + 1))) := Lib.hid (gr_trans (gr_drewN _ _ _) hG2)
        obtain ⟨T, hTe⟩ : ∃ T, oneL (sfx s q) = T := ⟨_, rfl⟩
        have hlen := oneL_len (sfx s q) (by intro h; have := sfx_len s q; rw [h] at this; simp at this; omega)
        rw [hTe, sfx_len] at hlen
        have HLN := Lib.hid hlen
        have HTe := Lib.hid hTe
        rw [hTe] at hT
        have HF2 := Lib.hid (HF.out.kept HG2.out (fun j hj => by simp at hj; omega))
        have HB2 : Hid (Below w.heap.size w w2) := Lib.hid (HB1.out.grown HG2.out HB1.out.size (fun j hj => by simp at hj; omega))
        have hFlt2 := HF2.out.lt
        have hRlt2 : w.heap.size + 1 < w2.heap.size := Nat.lt_of_lt_of_le hRlt HG2.out.size
        clear hlen hTe hG2
        rcases hT with ⟨hT0, rfl, rfl, hR2⟩ | ⟨hT0, ⟨kk, tt, nn, rfl⟩, ⟨rfl, hoff, j, hR2⟩ | ⟨rfl, hR2⟩⟩
        · have d4 := hR2.c4
          have HS2 := Lib.hid (HS1.out.keep hR2 HG2.out)
          have HT0 := Lib.hid hT0
          clear hT0 hR2
          rw [tokV]
          have f0 := HF2.out.cell 0
          have f1 := HF2.out.cell 1
          have f2 := HF2.out.cell 2
          have z0 := HF2.out.fr 0
          have z1 := HF2.out.fr 1
          have z2 := HF2.out.fr 2
          by_cases hn : out.length = 16384
          · have hAe := hX1.out
            have hokt : ok = true := by
              cases ok with
              | true => rfl
              | false => exact absurd (rest_bad s f q false out hFt.out (.inl rfl) (.inl rfl)).2.1 (by rw [HTe.out, HT0.out]; simp)
            rw [hokt, rest_many s f q out hqs (by rw [HTe.out]; exact HT0.out) hn] at hAe
            have HAe : Hid (A = ⟨[], 7, ln s q, cl s q⟩) := Lib.hid hAe.symm
            have hn' : ((out.length : Int) == 16384) = true := by simp; omega
            clear hn hAe hokt
            go_wp2_with fail
            (try simp only [Exit.inBlock, Exit.then])
            (try rw [Exit.noGoto_ret])
            refine bodyPost_ret (v := .tuple #[.slice none 0 0, .agg #[.int .i64 7, .int .i64 (ln s q), .int .i64 (cl s q)]]) ?_ rfl ⟨.slice none 0 0, ?_, ?_, ?_⟩
            · rw [results_tmp_cell rfl]; go_simp
            · rw [HAe.out]
            · rw [HAe.out]; exact SLN.nil _ _ _ _
            · exact bl_a (bl_s (bl_s (bl_s HB2.out _ _) _ _) _ _) _
          · have hAe := hX1.out
            have hokt : ok = true := by
              cases ok with
              | true => rfl
              | false => exact absurd (rest_bad s f q false out hFt.out (.inl rfl) (.inl rfl)).2.1 (by rw [HTe.out, HT0.out]; simp)
            rw [hokt, rest_more s f q out hqs (by rw [HTe.out]; exact HT0.out) hn, HTe.out] at hAe
            have HX2 := Lib.hid hAe
            have hn' : ((out.length : Int) == 16384) = false := by simp; omega
            have hol' : out.length + 1 ≤ 16384 := by omega
            clear hn hAe hokt
            have hl2 := HLN.out HT0.out
            have hb1 : out.length + 1 ≤ maxLen ∧ (out.length + 1) * 48 ≤ 140737488355328 := by unfold maxLen; omega
            have hsz : w.heap.size + 2 ≤ w2.heap.size := by omega
            have hq2 := HS2.out.rd.c1
            go_wp2_with (at_builtin; refine wpList_append_own _ rfl _ _ 22 rfl (w.heap.size + 2) 25 i0 _ 5 48 Tryd.underlying22 hi hz0 hz1 hz2 rfl (by decide) _ _ _ rfl ((HS2.out.own.alloc _).alloc _) ⟨w2.heap.size + 1, 0, none⟩ 1 1 (tokCells ⟨T, ln s q, cl s q⟩) rfl rfl (tok_news w2 ⟨T, ln s q, cl s q⟩ _) (tok_one _) hb1.1 hb1.2 (ow_le (ow_le hsz _) _) ?_; intro v5 w5 hown5 hgrow5 _)
            have HS5 := Lib.hid (HS2.out.next hgrow5 hown5)
            have hq5 := HS5.out.rd.c1
            clear hown5 hgrow5
            go_wp2
            go_roundw
            case rel => exact ⟨q + T.len, f, _, by simp; omega, by omega, HS5, HX2⟩
            case measure => simp only [hq5, hk1]; simp [intOf]; omega
        · have hAe := (rest_bad s f q ok out hFt.out (.inr hqs) (.inr (by rw [HTe.out]; exact hT0))).2.2
          rw [HTe.out, hoff, hX1.out] at hAe
          have HAe : Hid (A = ⟨[], T.err, ln s q, cl s q⟩) := Lib.hid hAe
          have hT1 : (T.err == 0) = false := by simp [hT0]
          have hT2 : (T.err != 0) = true := by simp [hT0]
          have d4 := hR2.c4
          clear hAe hoff hT0 hR2
          have f0 := HF2.out.cell 0
          have f1 := HF2.out.cell 1
          have f2 := HF2.out.cell 2
          have z0 := HF2.out.fr 0
          have z1 := HF2.out.fr 1
          have z2 := HF2.out.fr 2
          go_wp2_with fail
          (try simp only [Exit.inBlock, Exit.then])
          (try rw [Exit.noGoto_ret])
          refine bodyPost_ret (v := .tuple #[.slice none 0 0, .agg #[.int .i64 T.err, .int .i64 (ln s q), .int .i64 (cl s q)]]) ?_ rfl ⟨.slice none 0 0, ?_, ?_, ?_⟩
          · rw [results_tmp_cell rfl]; go_simp
          · rw [HAe.out]
          · rw [HAe.out]; exact SLN.nil _ _ _ _
          · exact bl_a (bl_s (bl_s (bl_s HB2.out _ _) _ _) _ _) _
        · have hAe := (rest_bad s f q ok out hFt.out (.inr hqs) (.inr (by rw [HTe.out]; exact hT0))).2.2
          rw [HTe.out, hX1.out] at hAe
          have HAe : Hid (A = ⟨[], T.err, ln s (q + T.off), cl s (q + T.off)⟩) := Lib.hid hAe
          have hT2 : (T.err != 0) = true := by simp [hT0]
          have d4 := hR2.c4
          have d5 := hR2.c5
          have d6 := hR2.c6
          clear hAe hT0 hR2
          have f0 := HF2.out.cell 0
          have f1 := HF2.out.cell 1
          have f2 := HF2.out.cell 2
          have z0 := HF2.out.fr 0
          have z1 := HF2.out.fr 1
          have z2 := HF2.out.fr 2
          by_cases hn : out.length = 16384
          · have hn' : ((out.length : Int) == 16384) = true := by simp; omega
            clear hn
            go_wp2_with fail
            go_region
            all_goals
              go_wp2_with fail
              (try simp only [Exit.inBlock, Exit.then])
              (try rw [Exit.noGoto_ret])
              refine bodyPost_ret (v := .tuple #[.slice none 0 0, .agg #[.int .i64 T.err, .int .i64 (ln s (q + T.off)), .int .i64 (cl s (q + T.off))]]) ?_ rfl ⟨.slice none 0 0, ?_, ?_, ?_⟩
              · rw [results_tmp_cell rfl]; go_simp
              · rw [HAe.out]
              · rw [HAe.out]; exact SLN.nil _ _ _ _
              · exact (bl_a (bl_s (bl_s (bl_s HB2.out _ _) _ _) _ _) _).drew
          · have hn' : ((out.length : Int) == 16384) = false := by simp; omega
            clear hn
            go_wp2_with fail
            go_region
            all_goals
              go_wp2_with fail
              (try simp only [Exit.inBlock, Exit.then])
              (try rw [Exit.noGoto_ret])
              refine bodyPost_ret (v := .tuple #[.slice none 0 0, .agg #[.int .i64 T.err, .int .i64 (ln s (q + T.off)), .int .i64 (cl s (q + T.off))]]) ?_ rfl ⟨.slice none 0 0, ?_, ?_, ?_⟩
              · rw [results_tmp_cell rfl]; go_simp
              · rw [HAe.out]
              · rw [HAe.out]; exact SLN.nil _ _ _ _
              · exact (bl_a (bl_s (bl_s (bl_s HB2.out _ _) _ _) _ _) _).drew
      · have hqe : q = s.size := by omega
        have hE1 : ((q : Int) == (s.size : Int)) = true := by simp; omega
        have hokt : ok = true := by
          cases ok with
          | true => rfl
          | false => have := (hFt.out rfl).1; omega
        have hAe := hX1.out
        rw [hokt, rest_end s f q out (by omega)] at hAe
        have HAe : Hid (A = ⟨out ++ [⟨endT, ln s q, cl s q⟩], 0, 0, 0⟩) := Lib.hid hAe.symm
        clear hAe hokt hqe
        have f0 := HF.out.cell 0
        have f1 := HF.out.cell 1
        have f2 := HF.out.cell 2
        have z0 := HF.out.fr 0
        have z1 := HF.out.fr 1
        have z2 := HF.out.fr 2
        have hb1 : out.length + 1 ≤ maxLen ∧ (out.length + 1) * 48 ≤ 140737488355328 := by unfold maxLen; omega
        have hlo := ow_lo HS1.out.own
        have hn0 : some w.heap.size ≠ (Value.slice va out.length vc).ownBlock := fun e => by have := hlo _ e.symm; omega
        have hn1 : some (w.heap.size + 1) ≠ (Value.slice va out.length vc).ownBlock := fun e => by have := hlo _ e.symm; omega
        have hN := Lib.hid (fun n => tok_news1 (w1.drewN n) ⟨endT, ln s q, cl s q⟩)
        have HLO := Lib.hid hlo
        clear hlo
        go_wp2_with fail
        go_quiet (fail)
        go_wp2_with fail
        go_region_held3 (fun w' => w'.cell? ⟨w.heap.size + 1, 2, none⟩ = some (.int .i64 (ln s q)) ∧ w'.cell? ⟨w.heap.size + 1, 3, none⟩ = some (.int .i64 (cl s q)) ∧ w'.cell? ⟨w.heap.size, 0, none⟩ = some (.int .i64 0) ∧ w'.cell? ⟨w.heap.size, 1, none⟩ = some (.int .i64 0) ∧ w'.cell? ⟨w.heap.size, 2, none⟩ = some (.int .i64 0) ∧ w'.frozen? ⟨w.heap.size, 0, none⟩ = false ∧ w'.frozen? ⟨w.heap.size, 1, none⟩ = false ∧ w'.frozen? ⟨w.heap.size, 2, none⟩ = false)
          (first
            | (go_keep; done)
            | (go_split_ands
               refine ⟨?_, ?_, ?_, ?_, ?_, ?_, ?_, ?_⟩ <;> (go_simp; done))
            | (refine ⟨?_, ?_, ?_, ?_, ?_, ?_, ?_, ?_⟩ <;> first | (go_keep; done) | exact (fr_alloc (w1.drewN _) _ _ hFlt).trans z0 | exact (fr_alloc (w1.drewN _) _ _ hFlt).trans z1 | exact (fr_alloc (w1.drewN _) _ _ hFlt).trans z2)
            | (go_split_ands
               refine ⟨?_, ?_, ?_, ?_, ?_, ?_, ?_, ?_⟩
               · (rw [hgrow5.cell_far _ (by simp; omega) hn1]; go_keep)
               · (rw [hgrow5.cell_far _ (by simp; omega) hn1]; go_keep)
               · (rw [hgrow5.cell_far _ (by simp; omega) hn0]; go_keep)
               · (rw [hgrow5.cell_far _ (by simp; omega) hn0]; go_keep)
               · (rw [hgrow5.cell_far _ (by simp; omega) hn0]; go_keep)
               · (rw [hgrow5.frozen_far _ (by simp; omega) hn0]; exact (fr_alloc (w1.drewN _) _ _ hFlt).trans z0)
               · (rw [hgrow5.frozen_far _ (by simp; omega) hn0]; exact (fr_alloc (w1.drewN _) _ _ hFlt).trans z1)
               · (rw [hgrow5.frozen_far _ (by simp; omega) hn0]; exact (fr_alloc (w1.drewN _) _ _ hFlt).trans z2)))
          ((refine step_append_lies _ (by rfl) _ _ _ (by rfl) (w.heap.size + 2) 25 i0 _ 5 48 Tryd.underlying22 hi hz0 hz1 hz2 rfl (by omega) (Value.slice va out.length vc) out.length (tokRows out).flatten (by rfl) ((HS1.out.own.alloc _).drew) ⟨w1.heap.size, 0, none⟩ 1 1 (tokCells ⟨endT, ln s q, cl s q⟩) (by rfl) (by rfl) (hN.out _) (tok_one _) (by omega) hb1.1 hb1.2 (by simp; omega) (w1.heap.size + 1) (by simp) ?_; intro gg cap w5 hown5 hgrow5 hat hlt))
        all_goals
          go_wp2_with fail
          (try simp only [Exit.inBlock, Exit.then])
          (try rw [Exit.noGoto_ret])
          have HO : SLN 5 w5 (.slice (some ⟨gg, 0, none⟩) (out.length + 1) cap) (tokRows (out ++ [⟨endT, ln s q, cl s q⟩])) := SLN.own (n := out.length + 1) (by simpa [tokRows] using hown5) (by simp [tokRows]) (tokRows_len _) hb1.1
          have hgl : some w.heap.size ≠ some gg := fun e => by have := ow_lo hown5 gg rfl; simp at e; omega
          refine bodyPost_ret (v := .tuple #[.slice (some ⟨gg, 0, none⟩) (out.length + 1) cap, .agg #[.int .i64 0, .int .i64 0, .int .i64 0]]) ?_ rfl ⟨.slice (some ⟨gg, 0, none⟩) (out.length + 1) cap, ?_, ?_, ?_⟩
          · rw [results_tmp_cell rfl]; go_simp
          · rw [HAe.out]
          · rw [HAe.out]
            exact ((HO.kept (gr_set _ _ _ _) (fun j hj => by rw [← hj]; exact Ne.symm hgl)).kept (gr_set _ _ _ _) (fun j hj => by rw [← hj]; exact Ne.symm hgl)).kept (gr_set _ _ _ _) (fun j hj => by rw [← hj]; exact Ne.symm hgl)
          · exact bl_s (bl_s (bl_s (bl_g (bl_a (bl_drewN HB1.out _) _) hgrow5 (fun j hj => by have := HLO.out j hj; omega)) _ _) _ _) _ _
    · have hAe : A = ⟨[], 13, ln s q, cl s q⟩ := by rw [← hX1.out, hok]; rfl
      have HAe := Lib.hid hAe
      have d4 := hR1.c4
      have d5 := hR1.c5
      have d6 := hR1.c6
      have d2 := hR1.c2
      have d3 := hR1.c3
      clear hAe hok hR1
      have f0 := HF.out.cell 0
      have f1 := HF.out.cell 1
      have f2 := HF.out.cell 2
      have z0 := HF.out.fr 0
      have z1 := HF.out.fr 1
      have z2 := HF.out.fr 2
      go_wp2_with fail
      go_quiet (fail)
      go_wp2_with fail
      go_region
      all_goals
        go_wp2_with fail
        (try simp only [Exit.inBlock, Exit.then])
        (try rw [Exit.noGoto_ret])
        refine bodyPost_ret (v := .tuple #[.slice none 0 0, .agg #[.int .i64 13, .int .i64 (ln s q), .int .i64 (cl s q)]]) ?_ rfl ⟨.slice none 0 0, ?_, ?_, ?_⟩
        · rw [results_tmp_cell rfl]; go_simp
        · rw [HAe.out]
        · rw [HAe.out]; exact SLN.nil _ _ _ _
        · exact bl_s (bl_s (bl_s (bl_drewN HB1.out _) _ _) _ _) _ _
end Go.Proofs.YtmelilppeikdiaaDoor
