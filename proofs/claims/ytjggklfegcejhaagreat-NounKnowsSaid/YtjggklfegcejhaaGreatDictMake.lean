/- Contract of dict.Make. -/
import Derived.Test.YtjggklfegcejhaaGreatDictAdd
import Derived.Test.YtjggklfegcejhaaGreatDictSort
import Derived.Maps.RangeWalk
namespace Go.Proofs.YtjggklfegcejhaaGreat
open Go.RowKit Go.PlainAid Go.Maps
set_option linter.unusedVariables false
set_option linter.unusedSimpArgs false

theorem keyOf_str_inv {key : Value} {kl : Lit} (h : keyOf Tryz.prog 9 key = some kl) : ∃ x : List UInt8, key = .string ⟨x.toArray⟩ ∧ kl = .string x ∧ x.length ≤ maxLen := by
  rw [keyOf_string Tryz.underlying9] at h
  cases key <;> simp [mapKey, Tryz.underlying9] at h
  rename_i s
  refine ⟨s.data.toList, rfl, ?_, ?_⟩
  · have := h.2
    first | exact this.symm | (rw [← this]; rfl) | (simp [this])
  · have := h.1
    have e : s.data.toList.length = s.size := by simp
    omega
section
variable {ops : Array Oper} {rest : List Oper} {o : Oper} {a : Act} {Q : Exit → Act → World → Prop}
theorem wpList_next_si (w : World) (hg : o.guard = none) (it : Operand) (hop : o.op = Op.next it false)
    (b r n : Nat) (D : DataW Unit) (left : Lit → Bool) (cnt : Nat) (hit : a.eval it = .pointer (some ⟨r, 0, none⟩)) (h : w.ranges Tryz.prog 9 (plainElem Tryz.prog 3) b r n D left cnt)
    (hDone : (∀ kl, left kl = false) → wpList Tryz.prog ops Q rest (a.put o.dst (.tuple #[.bool false])) w)
    (hMore : ∀ (x : List UInt8) (c : Int) (w' : World) (cnt' : Nat), x.length ≤ maxLen → left (.string x) = true → (∀ zd, D.atKey (.string x) zd = .lit (.int .i64 c)) → w'.ranges Tryz.prog 9 (plainElem Tryz.prog 3) b r n D (fun z => left z && !z.sameKey (.string x)) cnt' → cnt' < cnt →
      w.grownBy w' (some r) → w'.heap.size = w.heap.size → (Instr.entry (.pointer (some ⟨r, 0, none⟩))).run Tryz.prog w' = .ok (.tuple #[.string ⟨x.toArray⟩, .int .i64 c]) w' → wpList Tryz.prog ops Q rest (a.put o.dst (.tuple #[.bool true, .string ⟨x.toArray⟩, .int .i64 c])) w') :
    wpList Tryz.prog ops Q (o :: rest) a w :=
  wpList_next_ranges w hg it hop 9 strKeyed (plainElem Tryz.prog 3) (fun x : List UInt8 => Value.string ⟨x.toArray⟩) (Value.int .i64) (fun key kl hkey => by obtain ⟨x, rfl, _⟩ := keyOf_str_inv hkey; exact ⟨x, rfl⟩) (fun v y hv => by obtain ⟨c, rfl, _⟩ := plainElem_int_inv Tryz.underlying3 hv; exact ⟨c, rfl⟩)
    b r n D left cnt hit h (fun _ h0 => hDone h0) (fun x c kl y w' cnt' hkey hlk hv hat hrg hlt hgr hsz hen => by
      obtain ⟨x', ex, rfl, hwx⟩ := keyOf_str_inv hkey
      have ex' : x = x' := by
        have := congrArg (fun v : Value => match v with | .string s => s.data.toList | _ => []) ex
        simpa using this
      subst ex'
      obtain ⟨c', ec, rfl, hwc⟩ := plainElem_int_inv Tryz.underlying3 hv
      cases ec
      exact hMore x c w' cnt' hwx hlk hat hrg hlt hgr hsz hen)
end
/-- What Make's variables hold. -/
structure MkD (w wr : World) (x : TAd) (t : TbC) (acc : List Ad) : Prop where
  ads : AdS wr (w.heap.size + 1) (w.heap.size + 1 + 1) acc
  bel : Below w.heap.size w wr
  box : BK wr w.heap.size (tabC x t) 28
theorem MkD.alloc {w wr : World} {x : TAd} {t : TbC} {acc : List Ad} (h : MkD w wr x t acc) (o : Obj) : MkD w (wr.alloc o) x t acc := ⟨h.ads.alloc o, bl_a h.bel o, h.box.alloc o⟩
theorem MkD.below {w wr w' : World} {x : TAd} {t : TbC} {acc : List Ad} (h : MkD w wr x t acc) (hb : Below wr.heap.size wr w') : MkD w w' x t acc := ⟨h.ads.kept (gr_below (r := none) hb) (by simp) (by simp), bl_then h.bel hb, h.box.below hb⟩
theorem accP {t : TbC} {acc rest : List Ad} (ht : TabFew t) (hw : WordsIn t) (e : acc ++ rest = adsP t) : AdsOk acc ∧ acc.length ≤ 30000 := ⟨(adsP_ok hw).front e, front_le (adsP_le ht) e⟩
theorem mkA_leP {n k : Nat} {l : List TxC} {acc rest tot : List Ad} (e : acc ++ (mkA k l ++ rest) = tot) (h : tot.length ≤ n) : acc.length + l.length ≤ n := by
  have h1 := congrArg List.length e
  simp [mkA] at h1
  omega
theorem MkD.add {w wr : World} {x : TAd} {t : TbC} {acc rest : List Ad} {vw : Value} {ws : List TxC} {b : Nat} (h : MkD w wr x t acc) (hw : Reads Cd.ss wr vw ws) (ht : TabFew t) (hi : WordsIn t) (hb : b < 64) (e : acc ++ (mkA b ws ++ rest) = adsP t) :
    Calls Tryz.prog 38 #[.int .i64 b, vw, .pointer (some ⟨w.heap.size + 1 + 1, 0, none⟩)] wr fun e w' => e = .returned (.tuple #[]) ∧ MkD w w' x t (acc ++ mkA b ws) ∧ wr.grownBy w' (some (w.heap.size + 1)) :=
  (dictAdd wr _ _ acc b vw ws h.ads hw (accP ht hi e).1 hb (Nat.le_trans (mkA_leP e (adsP_le ht)) (by decide))).mono fun e w' h2 => ⟨h2.1, ⟨h2.2.1, bl_g h.bel h2.2.2 (fun k hk => by have := Option.some.inj hk; omega), h.box.kept h2.2.2 (fun j hj => by have := Option.some.inj hj; omega)⟩, h2.2.2⟩
/-- What has been collected while a map is ranged over. -/
structure Got (ad : List Ad) (left : Lit → Bool) (L : List EnC) : Prop where
  mem : ∀ e : EnC, e ∈ L ↔ ((∃ a ∈ ad, a.2 = e.wd) ∧ left (.string e.wd) = false ∧ e.bt = (bitsA ad e.wd : Int))
  nd : (L.map (·.wd)).Nodup
theorem Got.start {ad : List Ad} {D : DataW Unit} (h : MapOf ad D) : Got ad (Maps.has D) [] := by
  refine ⟨fun e => ⟨fun h => (by cases h), fun ⟨h1, h2, _⟩ => ?_⟩, List.nodup_nil⟩
  rw [h.2.2 e.wd, decide_eq_false_iff_not] at h2
  exact absurd h1 h2
theorem Got.step {ad : List Ad} {D : DataW Unit} {left : Lit → Bool} {L : List EnC} {x : List UInt8} {c : Int} (h : MapOf ad D) (g : Got ad left L) (hl : left (.string x) = true) (hat : ∀ zd, D.atKey (.string x) zd = .lit (.int .i64 c)) : Got ad (fun z => left z && !z.sameKey (.string x)) (L ++ [⟨x, c⟩]) := by
  have hc : c = (bitsA ad x : Int) := by
    have := h.2.1 x
    rw [hat] at this
    simpa using this
  have hx : ∃ a ∈ ad, a.2 = x := by
    have h1 := has_true_of_atKey hat
    rw [h.2.2 x] at h1
    simpa using h1
  have hself : (Lit.string x).sameKey (.string x) = true := WideAt.sameKey_self (a := .string x) trivial
  have hne : ∀ y : List UInt8, y ≠ x → (Lit.string y).sameKey (.string x) = false := fun y hy => sameKey_ne (fun e => hy (by injection e))
  refine ⟨fun e => ?_, ?_⟩
  · rw [List.mem_append, List.mem_singleton]
    constructor
    · rintro (h1 | rfl)
      · obtain ⟨h2, h3, h4⟩ := (g.mem e).1 h1
        exact ⟨h2, by show (left _ && _) = false; rw [h3]; rfl, h4⟩
      · exact ⟨hx, by show (left _ && !_) = false; rw [hself]; simp, hc⟩
    · rintro ⟨h1, h2, h3⟩
      by_cases he : e.wd = x
      · right
        cases e with
        | mk wd bt =>
          simp only at he h3
          subst he
          rw [h3, hc]
      · left
        refine (g.mem e).2 ⟨h1, ?_, h3⟩
        have h4 : (left (.string e.wd) && !(Lit.string e.wd).sameKey (.string x)) = false := h2
        rw [hne _ he] at h4
        simpa using h4
  · rw [List.map_append, List.nodup_append]
    refine ⟨g.nd, by simp, fun a ha b hb hab => ?_⟩
    simp at hb
    obtain ⟨e, he, rfl⟩ := List.mem_map.1 ha
    have h1 := ((g.mem e).1 he).2.1
    rw [hab, hb, hl] at h1
    cases h1
theorem Got.done {ad : List Ad} {left : Lit → Bool} {L : List EnC} (g : Got ad left L) (hl : ∀ kl, left kl = false) : ∀ x : EnC, x ∈ L ↔ ((∃ a ∈ ad, a.2 = x.wd) ∧ x.bt = (bitsA ad x.wd : Int)) := fun x => by
  rw [g.mem x]
  exact ⟨fun h => ⟨h.1, h.2.2⟩, fun h => ⟨h.1, hl _, h.2⟩⟩
theorem got_ok {ad : List Ad} {L : List EnC} (h : ∀ x : EnC, x ∈ L ↔ ((∃ a ∈ ad, a.2 = x.wd) ∧ x.bt = (bitsA ad x.wd : Int))) (g : AdsOk ad) : ∀ x ∈ L, EnOk x := fun x hx => by
  obtain ⟨⟨a, h1, h2⟩, h3⟩ := (h x).1 hx
  have h4 := bitsA_lt (fun a ha => (g a ha).1) x.wd
  exact ⟨by rw [← h2]; exact (g a h1).2, by rw [h3]; exact i64_wf (by omega) (by omega)⟩
theorem got_pos {t : TbC} {L : List EnC} (h : ∀ x : EnC, x ∈ L ↔ ((∃ a ∈ adsP t, a.2 = x.wd) ∧ x.bt = (bitsA (adsP t) x.wd : Int))) : 0 < L.length := by
  have h0 : (16, ([110] : List UInt8)) ∈ baseA := by decide +kernel
  have h1 : (16, ([110] : List UInt8)) ∈ adsP t := List.mem_append_right _ h0
  exact List.length_pos_of_mem ((h ⟨[110], bitsA (adsP t) [110]⟩).2 ⟨⟨_, h1, rfl⟩, rfl⟩)
set_option maxRecDepth 100000 in
set_option maxHeartbeats 40000000 in
theorem dictMake (x : TAd) (t : TbC) (w : World) (ht : TabIs w x t) (hf : TabFew t) :
    Calls Tryz.prog 16 #[tabV x t] w fun e w' => ∃ r D, e = .returned r ∧ DictIs (adsP t) D ∧ Reads Cd.en.seq w' r D ∧ Below w.heap.size w w' := by
  have HT := Lib.hid ht
  have HF := Lib.hid hf
  have HW := Lib.hid (words_in ht)
  have hm := reads_few ht.th
  have hma := reads_few ht.ac
  unfold maxLen at hm hma
  clear ht hf
  have HM0 : Hid (MkD w (((tabW w x t).alloc (.map #[] 0)).alloc (.cells #[.map (some (w.heap.size + 1))] 60)) x t []) := Lib.hid (by
    have e1 : (tabW w x t).heap.size = w.heap.size + 1 := by simp
    have e2 : ((tabW w x t).alloc (.map #[] 0)).heap.size = w.heap.size + 2 := by simp
    refine ⟨⟨by omega, ?_, ?_⟩, bl_a (bl_a (bl_tab w x t) _) _, ((BK.new w (tabC x t) 28).alloc _).alloc _⟩
    · have := BitIs.new (tabW w x t)
      rw [e1] at this
      exact this.kept (gr_alloc _ _ none) (by simp)
    · have := BK.new ((tabW w x t).alloc (.map #[] 0)) [.map (some (w.heap.size + 1))] 60
      rw [e2] at this
      exact this)
  obtain ⟨W0, hW0⟩ : ∃ W0, ((tabW w x t).alloc (.map #[] 0)).alloc (.cells #[.map (some (w.heap.size + 1))] 60) = W0 := ⟨_, rfl⟩
  rw [hW0] at HM0
  have k8 := HM0.out.box.cell 8
  simp only [tabC, List.getElem?_cons_zero, List.getElem?_cons_succ] at k8
  unfold tabW tabC at hW0
  unfold tabV tabC
  have hmm := @run_makeMap Tryz.prog
  go_enter Tryz.func16, Tryz.ntmps16
  go_wp2_with fail
  clear hW0 hmm
  go_loopw [22] (fun i wr => ∃ (p : Nat) (acc : List Ad), i = .int .i64 p ∧ p ≤ t.th.length ∧ Hid (acc ++ (thsA (t.th.drop p) ++ (acsA t.ac ++ baseA)) = adsP t) ∧ Hid (MkD w wr x t acc)) (fun i _ => t.th.length - (intOf i).toNat)
  case atStart => exact ⟨0, [], rfl, Nat.zero_le _, Lib.hid (by simp [adsP]), HM0⟩
  case round =>
    clear HM0
    obtain ⟨p, acc, rfl, hpl, HA, HM⟩ := hrel
    by_cases hlt : p < t.th.length
    · obtain ⟨b, off, cap, hv, hcap, hblt, hcell⟩ := th_open HT.out.th (by omega)
      have hac : x.a8 = some ⟨b, off, none⟩ := by simp at hv; exact hv.1
      obtain ⟨pv, wv, av, yv, hth, hrow⟩ := hcell p hlt
      have HE1 : Hid (acc ++ (mkA 1 t.th[p].wd ++ (mkA 2 t.th[p].ad ++ (thsA (t.th.drop (p + 1)) ++ (acsA t.ac ++ baseA)))) = adsP t) := Lib.hid (by
        have := HA.out
        rw [ths_drop _ _ hlt] at this
        unfold thA at this
        simpa using this)
      have HTW := Lib.hid hth.wd
      have HTA := Lib.hid hth.ad
      have e0 := (HM.out.bel.cell (p := ⟨b, off + p * 9 + 0, none⟩) hblt).trans (hrow 0 (by decide))
      have e1 := (HM.out.bel.cell (p := ⟨b, off + p * 9 + 1, none⟩) hblt).trans (hrow 1 (by decide))
      have e2 := (HM.out.bel.cell (p := ⟨b, off + p * 9 + 2, none⟩) hblt).trans (hrow 2 (by decide))
      have e3 := (HM.out.bel.cell (p := ⟨b, off + p * 9 + 3, none⟩) hblt).trans (hrow 3 (by decide))
      have e4 := (HM.out.bel.cell (p := ⟨b, off + p * 9 + 4, none⟩) hblt).trans (hrow 4 (by decide))
      have e5 := (HM.out.bel.cell (p := ⟨b, off + p * 9 + 5, none⟩) hblt).trans (hrow 5 (by decide))
      have e6 := (HM.out.bel.cell (p := ⟨b, off + p * 9 + 6, none⟩) hblt).trans (hrow 6 (by decide))
      have e7 := (HM.out.bel.cell (p := ⟨b, off + p * 9 + 7, none⟩) hblt).trans (hrow 7 (by decide))
      have e8 := (HM.out.bel.cell (p := ⟨b, off + p * 9 + 8, none⟩) hblt).trans (hrow 8 (by decide))
      simp only [thRow, List.getElem?_cons_zero, List.getElem?_cons_succ, Nat.add_zero] at e0 e1 e2 e3 e4 e5 e6 e7 e8
      obtain ⟨s5, c5, hs5, _⟩ := hth.pr.q.len
      obtain ⟨s6, c6, hs6, _⟩ := hth.wd.q.len
      obtain ⟨s7, c7, hs7, _⟩ := hth.ad.q.len
      obtain ⟨s8, c8, hs8, _⟩ := hth.wy.q.len
      subst hs5 hs6 hs7 hs8
      generalize t.th[p] = y at e0 e1 e2 e3 e4 e5 e6 e7 e8 HE1 HTW HTA
      have hk0 : (0 : Int) ≤ (p : Int) := by omega
      have hk1 : (p : Int) < (t.th.length : Int) := by omega
      rw [hac]
      clear hcell hv hrow hth hac
      have HE2 : Hid ((acc ++ mkA 1 y.wd) ++ (mkA 2 y.ad ++ (thsA (t.th.drop (p + 1)) ++ (acsA t.ac ++ baseA))) = adsP t) := Lib.hid (by rw [← HE1.out]; simp)
      have HE3 : Hid (((acc ++ mkA 1 y.wd) ++ mkA 2 y.ad) ++ (thsA (t.th.drop (p + 1)) ++ (acsA t.ac ++ baseA)) = adsP t) := Lib.hid (by rw [← HE1.out]; simp)
      have HC1 := Lib.hid (fun o => (HM.out.alloc o).add (HTW.out.below (bl_a HM.out.bel o)) HF.out HW.out (by decide) HE1.out)
      have HC2 := Lib.hid (fun w' (hm : MkD w w' x t (acc ++ mkA 1 y.wd)) => hm.add (HTA.out.below hm.bel) HF.out HW.out (by decide) HE2.out)
      have HK := Lib.hid (fun w' (hg : (wr.alloc (.cells #[.int .i64 y.ti, .int .i64 y.tx, .int .i64 y.pa, .int .i64 y.fl, .bool y.rm, .slice s5 y.pr.length c5, .slice s6 y.wd.length c6, .slice s7 y.ad.length c7, .slice s8 y.wy.length c8] 64)).grownBy w' (some (w.heap.size + 1))) => (BK.new wr [.int .i64 y.ti, .int .i64 y.tx, .int .i64 y.pa, .int .i64 y.fl, .bool y.rm, .slice s5 y.pr.length c5, .slice s6 y.wd.length c6, .slice s7 y.ad.length c7, .slice s8 y.wy.length c8] 64).kept hg (fun j hj => by have := Option.some.inj hj; have := HM.out.ads.mlt; omega))
      go_wp2_with (first
        | (go_at_call 38; have _tok := HM7.out; refine (HC2.out _ HM7.out).mono ?_; rintro e w9 ⟨rfl, hm9, hg9⟩; have HM9 := Lib.hid hm9; clear hm9 hg9)
        | (go_at_call 38; refine (HC1.out _).mono ?_; rintro e w7 ⟨rfl, hm7, hg7⟩; have HM7 := Lib.hid hm7; have kc := (HK.out _ hg7).cell 7; simp only [List.getElem?_cons_zero, List.getElem?_cons_succ] at kc; clear hm7 hg7))
      go_roundw
      case rel => exact ⟨p + 1, _, by go_num, by omega, HE3, HM9⟩
      case measure => simp [intOf]; omega
    · have HA2 : Hid (acc ++ (acsA (t.ac.drop 0) ++ baseA) = adsP t) := Lib.hid (by
        have := HA.out
        rw [List.drop_eq_nil_of_le (by omega)] at this
        simpa [thsA] using this)
      have k9 := HM.out.box.cell 9
      simp only [tabC, List.getElem?_cons_zero, List.getElem?_cons_succ] at k9
      clear k8 HA
      go_wp2_with fail
      obtain ⟨w7, rfl⟩ : ∃ w7 : World, w7 = wr := ⟨_, rfl⟩
      go_loopw [38] (fun i wr => ∃ (p : Nat) (acc : List Ad), i = .int .i64 p ∧ p ≤ t.ac.length ∧ Hid (acc ++ (acsA (t.ac.drop p) ++ baseA) = adsP t) ∧ Hid (MkD w wr x t acc)) (fun i _ => t.ac.length - (intOf i).toNat)
      case atStart => exact ⟨0, acc, rfl, Nat.zero_le _, HA2, HM⟩
      case round =>
        clear HA2 HM k9
        obtain ⟨p, acc, rfl, hpl, HA, HM⟩ := hrel
        by_cases hlt : p < t.ac.length
        · obtain ⟨b, off, cap, hv, hcap, hblt, hcell⟩ := ac_open HT.out.ac (by omega)
          have hac : x.a9 = some ⟨b, off, none⟩ := by simp at hv; exact hv.1
          obtain ⟨u, hu, f0, f1⟩ := hcell p hlt
          have e0 := (HM.out.bel.cell (p := ⟨b, off + p * 2, none⟩) hblt).trans f0
          have e1 := (HM.out.bel.cell (p := ⟨b, off + p * 2 + 1, none⟩) hblt).trans f1
          have HE1 : Hid (acc ++ (((t.ac[p].ln.drop 0).map fun l => lineA l 0).flatten ++ (acsA (t.ac.drop (p + 1)) ++ baseA)) = adsP t) := Lib.hid (by
            have := HA.out
            rw [acs_drop _ _ hlt, List.append_assoc] at this
            exact this)
          obtain ⟨s1, c1, hs1, hc1, hm1⟩ := hu.q.len
          subst hs1
          unfold maxLen at hm1
          have HU := Lib.hid hu
          generalize t.ac[p] = y at e0 e1 f0 f1 HE1 HU hm1 hc1
          have hk0 : (0 : Int) ≤ (p : Int) := by omega
          have hk1 : (p : Int) < (t.ac.length : Int) := by omega
          rw [hac]
          have HMx : Hid (MkD w (wr.alloc (.cells #[.bool y.me, .slice s1 y.ln.length c1] 67)) x t acc) := Lib.hid (HM.out.alloc _)
          clear hcell hv hac hu f0 f1
          go_wp2_with fail
          obtain ⟨wo, rfl⟩ : ∃ wo : World, wo = wr := ⟨_, rfl⟩
          obtain ⟨wx, hwx⟩ : ∃ wx, wo.alloc (.cells #[.bool y.me, .slice s1 y.ln.length c1] 67) = wx := ⟨_, rfl⟩
          rw [hwx] at HMx
          rw [hwx]
          clear hwx e0 e1
          go_loopw [45] (fun i wr => ∃ (q : Nat) (acc : List Ad), i = .int .i64 q ∧ q ≤ y.ln.length ∧ Hid (acc ++ (((y.ln.drop q).map fun l => lineA l 0).flatten ++ (acsA (t.ac.drop (p + 1)) ++ baseA)) = adsP t) ∧ Hid (MkD w wr x t acc)) (fun i _ => y.ln.length - (intOf i).toNat)
          case atStart => exact ⟨0, acc, rfl, Nat.zero_le _, HE1, HMx⟩
          case round =>
            clear HE1 HM HMx
            obtain ⟨q, acc, rfl, hql, HA, HM⟩ := hrel
            by_cases hltq : q < y.ln.length
            · obtain ⟨b2, off2, cap2, hv2, hcap2, hblt2, hcell2⟩ := ln_open HU.out (by omega)
              have hac2 : s1 = some ⟨b2, off2, none⟩ := by simp at hv2; exact hv2.1
              obtain ⟨u2, hu2, f0⟩ := hcell2 q hltq
              have e0 := (HM.out.bel.cell (p := ⟨b2, off2 + q, none⟩) hblt2).trans f0
              have HE2 : Hid (acc ++ (lineA (y.ln[q].drop 0) 0 ++ (((y.ln.drop (q + 1)).map fun l => lineA l 0).flatten ++ (acsA (t.ac.drop (p + 1)) ++ baseA))) = adsP t) := Lib.hid (by
                have := HA.out
                rw [lns_drop _ _ hltq] at this
                simpa using this)
              obtain ⟨s2, c2, hs2, hc2, hm2⟩ := hu2.q.len
              subst hs2
              unfold maxLen at hm2
              have HU2 := Lib.hid hu2
              generalize y.ln[q] = z at f0 e0 HE2 HU2 hm2 hc2
              have hk2 : (0 : Int) ≤ (q : Int) := by omega
              have hk3 : (q : Int) < (y.ln.length : Int) := by omega
              rw [hac2]
              clear hcell2 hv2 hac2 hu2 f0
              go_wp2_with fail
              obtain ⟨wy, rfl⟩ : ∃ wy : World, wy = wr := ⟨_, rfl⟩
              go_loopw [51] (fun i wr => ∃ (j : Nat) (acc : List Ad), i = .int .i64 j ∧ j ≤ z.length ∧ Hid (acc ++ (lineA (z.drop j) j ++ (((y.ln.drop (q + 1)).map fun l => lineA l 0).flatten ++ (acsA (t.ac.drop (p + 1)) ++ baseA))) = adsP t) ∧ Hid (MkD w wr x t acc)) (fun i _ => z.length - (intOf i).toNat)
              case atStart => exact ⟨0, acc, rfl, Nat.zero_le _, HE2, HM⟩
              case round =>
                clear HE2 HM HA
                obtain ⟨j, acc, rfl, hjl, HA, HM⟩ := hrel
                by_cases hltj : j < z.length
                · obtain ⟨b3, off3, cap3, hv3, hcap3, hblt3, hcell3⟩ := sl_open HU2.out (by omega)
                  have hac3 : s2 = some ⟨b3, off3, none⟩ := by simp at hv3; exact hv3.1
                  obtain ⟨u3, hu3, f0, f1⟩ := hcell3 j hltj
                  have g0 := (HM.out.bel.cell (p := ⟨b3, off3 + j * 2, none⟩) hblt3).trans f0
                  have g1 := (HM.out.bel.cell (p := ⟨b3, off3 + j * 2 + 1, none⟩) hblt3).trans f1
                  have HE3 : Hid (acc ++ (mkA (bitA j) z[j].wd ++ (lineA (z.drop (j + 1)) (j + 1) ++ (((y.ln.drop (q + 1)).map fun l => lineA l 0).flatten ++ (acsA (t.ac.drop (p + 1)) ++ baseA)))) = adsP t) := Lib.hid (by
                    have := HA.out
                    rw [line_drop _ _ hltj] at this
                    simpa using this)
                  obtain ⟨s3, c3, hs3, hc3, hm3⟩ := hu3.q.len
                  subst hs3
                  have HU3 := Lib.hid hu3
                  generalize z[j] = sl at g0 g1 f0 f1 HE3 HU3 hm3 hc3
                  have HE4 : Hid ((acc ++ mkA (bitA j) sl.wd) ++ (lineA (z.drop (j + 1)) (j + 1) ++ (((y.ln.drop (q + 1)).map fun l => lineA l 0).flatten ++ (acsA (t.ac.drop (p + 1)) ++ baseA))) = adsP t) := Lib.hid (by rw [← HE3.out]; simp)
                  have HC1 := Lib.hid (fun o => (HM.out.alloc o).add (HU3.out.below (bl_a HM.out.bel o)) HF.out HW.out (by unfold bitA; split <;> decide) HE3.out)
                  have hk4 : (0 : Int) ≤ (j : Int) := by omega
                  have hk5 : (j : Int) < (z.length : Int) := by omega
                  rw [hac3]
                  clear hcell3 hv3 hac3 hu3 f0 f1
                  rcases Nat.eq_zero_or_pos j with hj0 | hj0
                  · subst hj0
                    have hb4 : bitA 0 = 4 := rfl
                    rw [hb4] at HC1
                    clear hb4
                    simp only [Nat.zero_mul, Nat.add_zero] at g0 g1
                    go_wp2_with (go_at_call 38; refine (HC1.out _).mono ?_; rintro e w9 ⟨rfl, hm9, hg9⟩; have HM9 := Lib.hid hm9; clear hm9 hg9)
                    go_roundw
                    case rel => exact ⟨1, _, by go_num, by omega, HE4, HM9⟩
                    case measure => simp [intOf]; omega
                  · have hb4 : bitA j = 8 := by unfold bitA; rw [if_neg (by omega)]
                    rw [hb4] at HC1 HE4
                    have hjn : ((j : Int) == 0) = false := by simp; omega
                    clear hb4
                    go_wp2_with (go_at_call 38; refine (HC1.out _).mono ?_; rintro e w9 ⟨rfl, hm9, hg9⟩; have HM9 := Lib.hid hm9; clear hm9 hg9)
                    go_roundw
                    case rel => exact ⟨j + 1, _, by go_num, by omega, HE4, HM9⟩
                    case measure => simp [intOf]; omega
                · have HE4 : Hid (acc ++ (((y.ln.drop (q + 1)).map fun l => lineA l 0).flatten ++ (acsA (t.ac.drop (p + 1)) ++ baseA)) = adsP t) := Lib.hid (by
                    have := HA.out
                    rw [List.drop_eq_nil_of_le (by omega)] at this
                    simpa [lineA] using this)
                  go_wp2
                  go_roundw
                  case rel => exact ⟨q + 1, acc, by go_num, by omega, HE4, HM⟩
                  case measure => simp [intOf]; omega
            · have HE4 : Hid (acc ++ (acsA (t.ac.drop (p + 1)) ++ baseA) = adsP t) := Lib.hid (by
                have := HA.out
                rw [List.drop_eq_nil_of_le (by omega)] at this
                simpa using this)
              go_wp2
              go_roundw
              case rel => exact ⟨p + 1, acc, by go_num, by omega, HE4, HM⟩
              case measure => simp [intOf]; omega
        · have HE1 : Hid (acc ++ (mkA 16 dirsW ++ (mkA 16 shortW ++ mkA 32 extraW)) = adsP t) := Lib.hid (by
            have := HA.out
            rw [List.drop_eq_nil_of_le (by omega)] at this
            simpa [acsA, baseA] using this)
          have HE2 : Hid ((acc ++ mkA 16 dirsW) ++ (mkA 16 shortW ++ mkA 32 extraW) = adsP t) := Lib.hid (by rw [← HE1.out]; simp)
          have HE3 : Hid (((acc ++ mkA 16 dirsW) ++ mkA 16 shortW) ++ (mkA 32 extraW ++ []) = adsP t) := Lib.hid (by rw [← HE1.out]; simp)
          have HE4 : Hid (((acc ++ mkA 16 dirsW) ++ mkA 16 shortW) ++ mkA 32 extraW = adsP t) := Lib.hid (by rw [← HE1.out]; simp)
          clear HA
          obtain ⟨wo, rfl⟩ : ∃ wo : World, wo = wr := ⟨_, rfl⟩
          go_wp2_with fail
          refine ((dictDirs _).mono fun e w' h => LitPost.of h).mono ?_
          rintro e w1 ⟨rfl, hk1, hb1⟩
          have HC1 := Lib.hid ((HM.out.below hb1).add (reads_lit hk1 (Nat.le_refl 12) (by decide) (by decide)) HF.out HW.out (by decide) HE1.out)
          clear hk1 hb1
          go_wp2_with fail
          refine (HC1.out).mono ?_
          rintro e w2 ⟨rfl, hm2, _⟩
          have HM2 := Lib.hid hm2
          clear hm2 HC1
          go_wp2_with fail
          refine ((dictShorts _).mono fun e w' h => LitPost.of h).mono ?_
          rintro e w3 ⟨rfl, hk1, hb1⟩
          have HC1 := Lib.hid ((HM2.out.below hb1).add (reads_lit hk1 (Nat.le_refl 10) (by decide) (by decide)) HF.out HW.out (by decide) HE2.out)
          clear hk1 hb1
          go_wp2_with fail
          refine (HC1.out).mono ?_
          rintro e w4 ⟨rfl, hm4, _⟩
          have HM4 := Lib.hid hm4
          clear hm4 HC1
          go_wp2_with fail
          refine ((dictExtras _).mono fun e w' h => LitPost.of h).mono ?_
          rintro e w5 ⟨rfl, hk1, hb1⟩
          have HC1 := Lib.hid ((HM4.out.below hb1).add (reads_lit hk1 (Nat.le_refl 10) (by decide) (by decide)) HF.out HW.out (by decide) HE3.out)
          clear hk1 hb1
          go_wp2_with fail
          refine (HC1.out).mono ?_
          rintro e w6 ⟨rfl, hm6, _⟩
          rw [HE4.out] at hm6
          have HM6 := Lib.hid hm6
          clear hm6 HC1 HE1 HE2 HE3 HE4 HM HM2 HM4
          have kr := HM6.out.ads.rf.cell 0
          simp only [List.getElem?_cons_zero] at kr
          obtain ⟨D, hD, hMO⟩ := HM6.out.ads.mp
          have hsz := hD.size_le
          have hal := adsP_le HF.out
          obtain ⟨i0, hi, hz0, hz1, hz2⟩ := info_parts Tryz.infoEntry
          have hrlt := HM6.out.ads.rf.lt
          obtain ⟨wm, hrunM, hownM, hgM⟩ := run_make_own (P := Tryz.prog) w6 (w.heap.size + 3) 43 73 i0 _ 2 Tryz.underlying43 hi hz0 hz1 .i64 .i64 (Maps.size D) (by rw [hz2]; omega) (by unfold maxLen; omega) (by omega)
          have kr2 := (HM6.out.ads.rf.kept hgM (by simp)).cell 0
          simp only [List.getElem?_cons_zero] at kr2
          have HBm := Lib.hid (bl_g HM6.out.bel hgM (fun k hk => by cases hk))
          have HOm : Hid (OwE wm (w.heap.size + 3) (.slice (some ⟨w6.heap.size, 0, none⟩) 0 (Maps.size D)) []) := Lib.hid hownM
          have hglt : w6.heap.size < wm.heap.size := (hownM.lt _ rfl).2
          have HWO := Lib.hid (adsP_ok HW.out)
          have HMO := Lib.hid hMO
          clear hownM hMO
          go_wp2_with (first
            | (at_len; refine wpList_len_own _ rfl _ 60 rfl 9 3 Tryz.underlying60 _ (w.heap.size + 1) (adsP t).length D rfl hD ?_)
            | (at_range; refine wpList_range_own _ rfl _ 60 rfl 9 3 strKeyed Tryz.underlying60 _ (w.heap.size + 1) (adsP t).length D rfl (hD.kept hgM (by simp)) ?_; intro w0 hrg0 hg0 hs0))
          go_frame
          clear hrunM
          go_loopw [14] (fun vo wr => ∃ (left : Lit → Bool) (cnt : Nat) (L : List EnC) (g cap : Nat), vo = .slice (some ⟨g, 0, none⟩) L.length cap ∧ g ≠ wm.heap.size ∧ Hid (wr.ranges Tryz.prog 9 (plainElem Tryz.prog 3) (w.heap.size + 1) wm.heap.size (adsP t).length D left cnt) ∧ Hid (OwE wr (w.heap.size + 3) (.slice (some ⟨g, 0, none⟩) L.length cap) L) ∧ L.length + cnt ≤ Maps.size D ∧ Hid (Got (adsP t) left L) ∧ Hid (Below w.heap.size w wr)) (fun _ wr => wr.rangeLeft (w.heap.size + 1) wm.heap.size)
          case atStart => exact ⟨_, _, [], w6.heap.size, Maps.size D, rfl, by omega, Lib.hid hrg0, Lib.hid (World.ownsRow.kept HOm.out hg0 (.inr (by simp [Value.ownBlock]))), by simp, Lib.hid (Got.start HMO.out), Lib.hid (bl_g HBm.out hg0 (fun k hk => by cases hk))⟩
          case round =>
            clear hrg0 hg0 hs0 HOm
            obtain ⟨left, cnt, L, g, cap, rfl, hgr, HRG, HO, hLc, HG, HB⟩ := hrel
            go_wp2_with (at_next; refine wpList_next_si _ rfl _ rfl (w.heap.size + 1) wm.heap.size (adsP t).length D left cnt rfl HRG.out ?_ ?_)
            · intro hl0
              have HD := Lib.hid (HG.out.done hl0)
              have hLl : L.length ≤ 100000 := by omega
              have HS := Lib.hid (dictSort _ L wr _ HO.out HG.out.nd (got_pos HD.out) hLl (got_ok HD.out HWO.out))
              clear hl0
              go_wp2_with (go_at_call 42; refine HS.out.mono ?_; rintro e w9 ⟨rfl, E, hr9, hp9, hv9, hg9⟩; have HR9 := Lib.hid hr9; have HP9 := Lib.hid hp9; have HV9 := Lib.hid hv9; have HB9 := Lib.hid (bl_g HB.out hg9 (fun k hk => by have := ow_lo HO.out k hk; omega)); clear hr9 hp9 hv9 hg9)
              go_ret
              exact ⟨_, E, rfl, dict_sorted HD.out HP9.out HR9.out, HV9.out, HB9.out⟩
            · intro x c w1 cnt1 hx hlx hat hrg1 hlt1 hg1 hs1 hen
              have HG1 := Lib.hid (HG.out.step HMO.out hlx hat)
              have hrlt2 := HRG.out.lt
              have HO1 : Hid (w1.ownsRow (w.heap.size + 3) 73 2 (.slice (some ⟨g, 0, none⟩) L.length cap) L.length ((L.map enCells).flatten)) := Lib.hid (World.ownsRow.kept HO.out hg1 (.inr (by simp [Value.ownBlock]; omega)))
              have hglo := ow_lo HO.out g rfl
              have HRG1 := Lib.hid hrg1
              have hl2 := Lib.hid hrg1.left_eq
              have hl3 := Lib.hid HRG.out.left_eq
              have hB1 := Lib.hid (bl_g HB.out hg1 (fun k hk => by have := Option.some.inj hk; have := HBm.out.size; omega))
              have hs1' : wm.heap.size < w1.heap.size := by omega
              have hbs : w.heap.size + 3 ≤ w1.heap.size := by omega
              clear hlx hat hrg1 hg1 hs1
              go_wp2_with (at_builtin; refine wpList_append_lies _ rfl _ _ 43 rfl (w.heap.size + 3) 73 i0 _ 2 24 Tryz.underlying43 hi hz0 hz1 hz2 rfl (by decide) (.slice (some ⟨g, 0, none⟩) L.length cap) L.length ((L.map enCells).flatten) rfl (HO1.out.alloc _) ⟨w1.heap.size, 0, none⟩ 1 1 [.string ⟨x.toArray⟩, .int .i64 c] rfl rfl (news_lit w1 [.string ⟨x.toArray⟩, .int .i64 c] _) (en_one _ _) (by decide) (by unfold maxLen; omega) (by omega) (ow_le hbs _) (w1.heap.size + 1) (by simp) ?_; intro gg cap5 w5 hown5 hgrow5 hat5 hlt5)
              have HO5 : Hid (OwE w5 (w.heap.size + 3) (.slice (some ⟨gg, 0, none⟩) (L ++ [(⟨x, c⟩ : EnC)]).length cap5) (L ++ [⟨x, c⟩])) := Lib.hid (by have := snocE (x := ⟨x, c⟩) hown5 rfl rfl; simpa using this)
              have hgg : gg ≠ wm.heap.size := by
                rcases hat5 with h | h
                · have : g = gg := by simpa [Value.ownBlock] using h
                  omega
                · omega
              have HRG5 := Lib.hid ((HRG1.out.alloc _).kept hgrow5 (by simp [Value.ownBlock]; omega) (by simp [Value.ownBlock]; omega))
              have HB5 := Lib.hid (bl_g (bl_a hB1.out _) hgrow5 (fun k hk => by have h : g = k := (by simpa [Value.ownBlock] using hk); omega))
              clear hown5 hgrow5 hat5 hlt5 hen
              go_wp2
              go_roundw
              case rel => exact ⟨_, cnt1, L ++ [⟨x, c⟩], gg, cap5, by simp, hgg, HRG5, HO5, by simp; omega, HG1, HB5⟩
              case measure => rw [HRG5.out.left_eq, HRG.out.left_eq]; exact hlt1
end Go.Proofs.YtjggklfegcejhaaGreat
