/- Contracts of clewref35.with and withAll. -/
import Derived.Test.YtlkdphbgephfiaaDictDir
import Derived.Deep.AppendLies
namespace Go.Proofs.Ytlkdphbgephfiaa
open Go.RowKit Go.PlainAid
set_option linter.unusedVariables false
set_option linter.unusedSimpArgs false

theorem Try.infoEntry : (Try.prog.info? 51).map (fun i => (i.zero, i.size, i.bytes)) = some (some (.agg #[.string ByteArray.empty, .int .i64 0]), 2, 24) := by kernel_rfl
/-- Entries that the call owns. -/
def OwE (w : World) (base : Nat) (v : Value) (L : List EnC) : Prop := w.ownsRow base 51 2 v L.length ((L.map enCells).flatten)
theorem OwE.nil (w : World) (base : Nat) : OwE w base (.slice none 0 0) [] := World.ownsRow_nil _ _ _ _
theorem OwE.snoc {w : World} {base : Nat} {v : Value} {L : List EnC} {x : EnC} (h : w.ownsRow base 51 2 v (L.length + 1) ((L.map enCells).flatten ++ enCells x)) : OwE w base v (L ++ [x]) := by
  unfold OwE; simpa using h
theorem enCells_one (x : EnC) : ∀ u ∈ enCells x, u.oneCell' = true := fun u hu => by simp [enCells] at hu; rcases hu with rfl | rfl <;> rfl
theorem or_val (a b : Nat) (ha : a < 64) (hb : b < 64) : bits BinOp.or IntKind.i64 (a : Int) (b : Int) = ((a ||| b : Nat) : Int) := by
  show IntKind.i64.wrap ((BitVec.ofInt 64 (a : Int) ||| BitVec.ofInt 64 (b : Int)).toNat : Int) = _
  have h := Nat.or_lt_two_pow (n := 6) ha hb
  have e : (BitVec.ofInt 64 (a : Int) ||| BitVec.ofInt 64 (b : Int)).toNat = a ||| b := by
    rw [BitVec.toNat_or, BitVec.ofInt_natCast, BitVec.ofInt_natCast, BitVec.toNat_ofNat, BitVec.toNat_ofNat, Nat.mod_eq_of_lt (by omega), Nat.mod_eq_of_lt (by omega)]
  rw [e]
  exact IntWalk.i64_in _ (by omega)
theorem news_lit2 (w : World) (o : Obj) (cs : List Value) (T : TypeId) : ∀ j u, cs[j]? = some u → ((w.alloc o).alloc (.cells cs.toArray T)).cell? ((⟨w.heap.size + 1, 0, none⟩ : Addr).add j) = some u := by
  have h := news_lit (w.alloc o) cs T
  rwa [World.size_alloc] at h
theorem en_one (a : ByteArray) (b : Int) : ∀ u ∈ [Value.string a, .int .i64 b], u.oneCell' = true := by
  intro u hu
  simp at hu
  rcases hu with rfl | rfl <;> rfl
theorem snocE {w : World} {B : Nat} {v : Value} {L : List EnC} {x : EnC} {a : List UInt8} {n : Int} (h : w.ownsRow B 51 2 v (L.length + 1) ((L.map enCells).flatten ++ [.string ⟨a.toArray⟩, .int .i64 n])) (e1 : x.wd = a) (e2 : x.bt = n) : OwE w B v (L ++ [x]) := by
  subst e1; subst e2; exact OwE.snoc h
set_option maxRecDepth 100000 in
set_option maxHeartbeats 16000000 in
theorem refWith (v : Value) (l : List EnC) (K : List UInt8) (b : Nat) (w : World) (hv : Reads Cd.en.seq w v l) (hl : l.length ≤ 100000) (hbits : ∀ x ∈ l, ∃ n : Nat, n < 64 ∧ x.bt = n) (hb64 : b < 64) :
    Calls Try.prog 58 #[v, .string ⟨K.toArray⟩, .int .i64 b] w fun e w' => ∃ r, e = .returned r ∧ OwE w' w.heap.size r (withGo K b l false) ∧ Below w.heap.size w w' := by
  have HV := Lib.hid hv
  have HBT := Lib.hid hbits
  obtain ⟨a0, c0, hv0, hc0, hm0⟩ := hv.len
  subst hv0
  unfold maxLen at hm0
  clear hv hbits
  obtain ⟨i0, hi, hz0, hz1, hz2⟩ := info_parts Try.infoEntry
  go_enter Try.func58, Try.ntmps58
  go_wp2
  go_loopw [7, 8, 13] (fun vo vd i wr => ∃ (p : Nat) (done : Bool) (L : List EnC), i = .int .i64 p ∧ p ≤ l.length ∧ vd = .bool done ∧ Hid (OwE wr w.heap.size vo L) ∧ L.length ≤ 2 * p ∧ Hid (L ++ withGo K b (l.drop p) done = withGo K b l false) ∧ Hid (Below w.heap.size w wr)) (fun _ _ i _ => l.length - (intOf i).toNat)
  case atStart => exact ⟨0, false, [], rfl, Nat.zero_le _, rfl, Lib.hid (OwE.nil _ _), Nat.le_refl _, Lib.hid rfl, Lib.hid (Below.refl _ _)⟩
  case round =>
    obtain ⟨p, done, L, rfl, hpl, rfl, hO, hLl, HR, hB⟩ := hrel
    obtain ⟨va, vc, hvo⟩ := ow_shape hO.out
    subst hvo
    have hsz := hB.out.size
    by_cases hlt : p < l.length
    · obtain ⟨g, off, cap, hv, hcap, hblt, hcell⟩ := en_open (HV.out.below hB.out) (by omega)
      have hac : a0 = some ⟨g, off, none⟩ := by simp at hv; exact hv.1
      subst hac
      obtain ⟨e0, e1⟩ := hcell p hlt
      obtain ⟨n, hn, hbt⟩ := HBT.out l[p] (List.getElem_mem _)
      rw [hbt] at e1
      have hdr := List.drop_eq_getElem_cons hlt
      rw [hdr] at HR
      generalize l[p] = x at e0 e1 HR hbt
      have hor := or_val n b hn hb64
      have hk0 : (0 : Int) ≤ (p : Int) := by omega
      have hk1 : (p : Int) < (l.length : Int) := by omega
      have HX : Hid (x.bt = (n : Int)) := Lib.hid hbt
      have HO := Lib.hid (fun o => World.ownsRow.alloc (o := o) hO.out)
      have HO2 := Lib.hid (fun o o2 => World.ownsRow.alloc (o := o2) (HO.out o))
      clear hcell hv hdr hbt
      by_cases hxk : x.wd = K
      · have hq1 : (x.wd == K) = true := by simpa using hxk
        have HR1 : Hid ((L ++ [⟨x.wd, orI x.bt b⟩]) ++ withGo K b (l.drop (p + 1)) true = withGo K b l false) := Lib.hid (by rw [← HR.out, withGo, if_pos hxk, List.append_assoc]; rfl)
        have HOR : Hid (orI x.bt b = ((n ||| b : Nat) : Int)) := Lib.hid (by rw [HX.out]; unfold orI; rfl)
        clear hxk HR
        go_wp2_with (at_builtin; refine wpList_append_own _ rfl _ _ 32 rfl w.heap.size 51 i0 _ 2 24 Try.underlying32 hi hz0 hz1 hz2 rfl (by decide) (.slice va L.length vc) L.length _ rfl (HO2.out _ _) ⟨wr.heap.size + 1, 0, none⟩ 1 1 [.string ⟨x.wd.toArray⟩, .int .i64 _] rfl rfl (news_lit2 _ _ _ _) (en_one _ _) (by unfold maxLen; omega) (by omega) (ow_le (ow_le hsz _) _) ?_; intro v5 w5 hown5 hgrow5 _)
        have HO5 : Hid (OwE w5 w.heap.size v5 (L ++ [⟨x.wd, orI x.bt b⟩])) := Lib.hid (snocE hown5 rfl HOR.out)
        have HB5 : Hid (Below w.heap.size w w5) := Lib.hid (bl_g (bl_a (bl_a hB.out _) _) hgrow5 (fun k hk => ow_lo hO.out k hk))
        clear hown5 hgrow5
        go_wp2
        go_roundw
        case rel => exact ⟨p + 1, true, _, by go_num, by omega, rfl, HO5, by simp; omega, HR1, HB5⟩
        case measure => simp [intOf]; omega
      · have hq1 : (x.wd == K) = false := by simpa using hxk
        by_cases hdl : done = false ∧ ltS K x.wd = true
        · obtain ⟨hd, hl2⟩ := hdl
          subst hd
          have hl3 : Op.bytesLess x.wd K = false := ltS_asymm hl2
          have HR1 : Hid ((L ++ [⟨K, b⟩] ++ [x]) ++ withGo K b (l.drop (p + 1)) true = withGo K b l false) := Lib.hid (by rw [← HR.out, withGo, if_neg hxk, if_pos ⟨rfl, hl2⟩, List.append_assoc, List.append_assoc]; rfl)
          have HKB := Lib.hid (fun (o : Obj) (w5 : World) (hg : ((wr.alloc (.cells #[.string ⟨x.wd.toArray⟩, .int .i64 n] 51)).alloc o).grownBy w5 (Value.slice va L.length vc).ownBlock) => ((BK.new wr [.string ⟨x.wd.toArray⟩, .int .i64 n] 51).alloc o).kept hg (fun j hj => by have := (hO.out.lt j hj).2; omega))
          clear hxk hl2 HR
          go_wp2_with (first
            | (at_builtin; have _tok := HB5.out; refine wpList_append_own _ rfl _ _ 32 rfl w.heap.size 51 i0 _ 2 24 Try.underlying32 hi hz0 hz1 hz2 rfl (by decide) (.slice va5 (L.length + 1) vc5) (L.length + 1) _ rfl (HO5.out.alloc _) ⟨w5.heap.size, 0, none⟩ 1 1 [.string ⟨x.wd.toArray⟩, .int .i64 (n : Int)] rfl rfl (news_lit _ _ _) (en_one _ _) (by unfold maxLen; omega) (by omega) (ow_le hs5 _) ?_; intro v6 w6 hown6 hgrow6 _; have HB6 := Lib.hid (bl_g (bl_a HB5.out _) hgrow6 (fun k hk => ow_lo HO5.out k hk)))
            | (at_builtin;  refine wpList_append_own _ rfl _ _ 32 rfl w.heap.size 51 i0 _ 2 24 Try.underlying32 hi hz0 hz1 hz2 rfl (by decide) (.slice va L.length vc) L.length _ rfl (HO2.out _ _) ⟨wr.heap.size + 1, 0, none⟩ 1 1 [.string ⟨K.toArray⟩, .int .i64 (b : Int)] rfl rfl (news_lit2 _ _ _ _) (en_one _ _) (by unfold maxLen; omega) (by omega) (ow_le (ow_le hsz _) _) ?_; intro v5 w5 hown5 hgrow5 _; have kb := HKB.out _ _ hgrow5; have c0 := kb.cell 0; have c1 := kb.cell 1; simp only [List.getElem?_cons_zero, List.getElem?_cons_succ] at c0 c1; clear kb; obtain ⟨va5, vc5, hv5⟩ := ow_shape hown5; subst hv5; have HB5 := Lib.hid (bl_g (bl_a (bl_a hB.out _) _) hgrow5 (fun k hk => ow_lo hO.out k hk)); have hs5 := HB5.out.size; have HO5 := Lib.hid hown5; clear hown5 hgrow5))
          have HO6 : Hid (OwE w6 w.heap.size v6 (L ++ [⟨K, b⟩] ++ [x])) := Lib.hid (by
            unfold OwE
            simpa [enCells, HX.out, Nat.add_assoc] using hown6)
          clear hown6 hgrow6
          go_wp2
          go_roundw
          case rel => exact ⟨p + 1, true, _, by go_num, by omega, rfl, HO6, by simp; omega, HR1, HB6⟩
          case measure => simp [intOf]; omega
        · have HR1 : Hid ((L ++ [x]) ++ withGo K b (l.drop (p + 1)) done = withGo K b l false) := Lib.hid (by rw [← HR.out, withGo, if_neg hxk, if_neg hdl, List.append_assoc]; rfl)
          have hl3 : done = false → Op.bytesLess x.wd K = true := fun hd => by
            cases h3 : Op.bytesLess x.wd K with
            | true => rfl
            | false => exact absurd (ltS_eq h3 (by cases h4 : ltS K x.wd with | false => rfl | true => exact absurd ⟨hd, h4⟩ hdl)) hxk
          clear hxk hdl HR
          cases done with
          | true =>
            clear hl3
            go_wp2_with (at_builtin;  refine wpList_append_own _ rfl _ _ 32 rfl w.heap.size 51 i0 _ 2 24 Try.underlying32 hi hz0 hz1 hz2 rfl (by decide) (.slice va L.length vc) L.length _ rfl (HO2.out _ _) ⟨wr.heap.size + 1, 0, none⟩ 1 1 [.string ⟨x.wd.toArray⟩, .int .i64 (n : Int)] rfl rfl (news_lit2 _ _ _ _) (en_one _ _) (by unfold maxLen; omega) (by omega) (ow_le (ow_le hsz _) _) ?_; intro v5 w5 hown5 hgrow5 _; have HB5 := Lib.hid (bl_g (bl_a (bl_a hB.out _) _) hgrow5 (fun k hk => ow_lo hO.out k hk)))
            have HO5 : Hid (OwE w5 w.heap.size v5 (L ++ [x])) := Lib.hid (snocE hown5 rfl HX.out)
            clear hown5 hgrow5
            go_wp2
            go_roundw
            case rel => exact ⟨p + 1, true, _, by go_num, by omega, rfl, HO5, by simp; omega, HR1, HB5⟩
            case measure => simp [intOf]; omega
          | false =>
            have hl4 := hl3 rfl
            clear hl3
            go_wp2_with (at_builtin;  refine wpList_append_own _ rfl _ _ 32 rfl w.heap.size 51 i0 _ 2 24 Try.underlying32 hi hz0 hz1 hz2 rfl (by decide) (.slice va L.length vc) L.length _ rfl (HO2.out _ _) ⟨wr.heap.size + 1, 0, none⟩ 1 1 [.string ⟨x.wd.toArray⟩, .int .i64 (n : Int)] rfl rfl (news_lit2 _ _ _ _) (en_one _ _) (by unfold maxLen; omega) (by omega) (ow_le (ow_le hsz _) _) ?_; intro v5 w5 hown5 hgrow5 _; have HB5 := Lib.hid (bl_g (bl_a (bl_a hB.out _) _) hgrow5 (fun k hk => ow_lo hO.out k hk)))
            have HO5 : Hid (OwE w5 w.heap.size v5 (L ++ [x])) := Lib.hid (snocE hown5 rfl HX.out)
            clear hown5 hgrow5
            go_wp2
            go_roundw
            case rel => exact ⟨p + 1, false, _, by go_num, by omega, rfl, HO5, by simp; omega, HR1, HB5⟩
            case measure => simp [intOf]; omega
    · have hdr : l.drop p = [] := List.drop_eq_nil_of_le (by omega)
      rw [hdr, withGo] at HR
      have HO := Lib.hid (fun o => World.ownsRow.alloc (o := o) hO.out)
      clear hdr
      cases done with
      | true =>
        rw [if_pos rfl, List.append_nil] at HR
        go_wp2
        go_ret
        exact ⟨_, rfl, by rw [← HR.out]; exact hO.out, hB.out⟩
      | false =>
        rw [if_neg (by decide)] at HR
        go_wp2_with (at_builtin;  refine wpList_append_own _ rfl _ _ 32 rfl w.heap.size 51 i0 _ 2 24 Try.underlying32 hi hz0 hz1 hz2 rfl (by decide) (.slice va L.length vc) L.length _ rfl (HO.out _) ⟨wr.heap.size, 0, none⟩ 1 1 [.string ⟨K.toArray⟩, .int .i64 (b : Int)] rfl rfl (news_lit _ _ _) (en_one _ _) (by unfold maxLen; omega) (by omega) (ow_le hsz _) ?_; intro v5 w5 hown5 hgrow5 _; have HB5 := Lib.hid (bl_g (bl_a hB.out _) hgrow5 (fun k hk => ow_lo hO.out k hk)))
        have HO5 : Hid (OwE w5 w.heap.size v5 (L ++ [⟨K, b⟩])) := Lib.hid (snocE hown5 rfl rfl)
        clear hown5 hgrow5
        go_wp2
        go_ret
        exact ⟨_, rfl, by rw [← HR.out]; exact HO5.out, HB5.out⟩
end Go.Proofs.Ytlkdphbgephfiaa
