/- The walk of the law OutFits: it answers true. -/
import Derived.Test.YtfnadieccdgnnaaDoorLaw44b
import Derived.Test.YtfnadieccdgnnaaDoorOutPlain3
namespace Go.Proofs.YtfnadieccdgnnaaDoor
open Go.RowKit Go.PlainAid
set_option linter.unusedVariables false
set_option linter.unusedSimpArgs false

theorem mkB_get (l : List UInt8) (j : Nat) (h : j < (mkB l).size) (h' : j < l.length) : (mkB l)[j]'h = l[j]'h' := by
  show (l.toArray)[j]'_ = _
  rfl
theorem u8_ne {c d : UInt8} (h : c ≠ d) : ((c.toNat : Int) == (d.toNat : Int)) = false := by
  rw [beq_eq_false_iff_ne]; intro e; exact h (UInt8.toNat_inj.1 (by omega))
theorem u8_bne {c d : UInt8} (h : c ≠ d) : ((c.toNat : Int) != (d.toNat : Int)) = true := by
  rw [bne_iff_ne]; intro e; exact h (UInt8.toNat_inj.1 (by omega))
/-- A word that OutFits takes. -/
def GoodF (n : Nat) (x : List UInt8) : Prop := x ≠ [] ∧ x.length ≤ n ∧ (32 : UInt8) ∉ x ∧ (10 : UInt8) ∉ x ∧ x.length ≤ 20
theorem join_len : ∀ L : List (List UInt8), (joinO L).length ≤ totO L
  | [] => by simp [joinO, totO]
  | [a] => by rw [join_one, totO]; omega
  | a :: b :: t => by
    have := join_len (b :: t)
    rw [join_cons a (b :: t) (by simp), totO]; simp; omega
theorem tot_20 : ∀ L : List (List UInt8), (∀ x ∈ L, x.length ≤ 20) → totO L ≤ 21 * L.length
  | [], _ => by simp [totO]
  | a :: t, h => by
    have h1 := tot_20 t (fun x hx => h x (List.mem_cons_of_mem _ hx))
    have h2 := h a (List.mem_cons_self ..)
    rw [totO]; simp; omega
/-- Words that are joined, one more. -/
theorem join_take (L : List (List UInt8)) (k : Nat) (h : k < L.length) : joinO (L.take (k + 1)) = if k = 0 then L[k] else joinO (L.take k) ++ [32] ++ L[k] := by
  rw [List.take_succ_eq_append_getElem h]
  by_cases h0 : k = 0
  · subst h0; rw [if_pos rfl]; rfl
  · rw [if_neg h0, join_snoc _ _ (by intro e; have := congrArg List.length e; rw [List.length_take, List.length_nil] at this; omega)]; simp
theorem join_take0 (L : List (List UInt8)) (k : Nat) (h : k < L.length) (h0 : k = 0) (z : List UInt8) (hz : z = joinO (L.take k)) : z ++ L[k] = joinO (L.take (k + 1)) := by
  rw [join_take L k h, if_pos h0, hz]; subst h0; rfl
theorem join_take1 (L : List (List UInt8)) (k : Nat) (h : k < L.length) (h0 : 0 < k) (z : List UInt8) (hz : z = joinO (L.take k)) : z ++ [32] ++ L[k] = joinO (L.take (k + 1)) := by
  rw [join_take L k h, if_neg (by omega), hz]
theorem take_bd (L : List (List UInt8)) (k : Nat) : (joinO (L.take k)).length ≤ totO L := Nat.le_trans (join_len _) (tot_take L k)
theorem good_20 {n : Nat} {L : List (List UInt8)} (h : ∀ x ∈ L, GoodF n x) : (joinO L).length ≤ 21 * L.length := Nat.le_trans (join_len _) (tot_20 L (fun x hx => (h x hx).2.2.2.2))
theorem take_more (l : List UInt8) (j : Nat) (h : j < l.length) (P : UInt8 → Prop) (h1 : ∀ y ∈ l.take j, P y) (h2 : P l[j]) : ∀ y ∈ l.take (j + 1), P y := by
  intro y hy
  rw [List.take_succ_eq_append_getElem h] at hy
  rcases List.mem_append.1 hy with hy | hy
  · exact h1 y hy
  · rw [List.mem_singleton.1 hy]; exact h2
theorem good_more {n : Nat} (L : List (List UInt8)) (k : Nat) (h : k < L.length) (h1 : ∀ y ∈ L.take k, GoodF n y) (h2 : GoodF n L[k]) : ∀ y ∈ L.take (k + 1), GoodF n y := by
  intro y hy
  rw [List.take_succ_eq_append_getElem h] at hy
  rcases List.mem_append.1 hy with hy | hy
  · exact h1 y hy
  · rw [List.mem_singleton.1 hy]; exact h2

set_option maxRecDepth 100000 in
set_option maxHeartbeats 8000000 in
theorem walkFits (v0 : Value) (W : List (List UInt8)) (width m : Int) (w : World) (hk : keeps m w) (hS : SLC w v0 (W.map strV)) (hWm : ∀ x ∈ W, x.length ≤ maxLen) :
    Calls Tryd.prog 5 #[v0, .int .i64 width] w fun e w' => e = .returned (.bool true) ∧ Below w.heap.size w w' := by
  have HK := Lib.hid hk
  have h0 := hk.2
  have HS := Lib.hid hS
  have HWm := Lib.hid hWm
  have hLm := hS.1.1
  rw [List.length_map] at hLm
  obtain ⟨a0, c0, hv0, hc0⟩ := hS.2
  rw [List.length_map] at hv0 hc0
  subst hv0
  unfold maxLen at hLm
  have hwb := wide_bd width
  have hwi := wide_int width
  have HWr := Lib.hid (fun l w => fun h1 h2 => outWrapL l width m w h1 h2)
  obtain ⟨n, hn⟩ : ∃ n, wideN width = n := ⟨_, rfl⟩
  rw [hn] at hwb hwi HWr
  have HWi := Lib.hid hwi
  clear hn hwi hk hS hWm
  go_enter Tryd.func5, Tryd.ntmps5
  go_wp2
  rw [← HWi.out]
  go_loop [6, 7] (fun s i => ∃ (k : Nat) (z : List UInt8), k ≤ W.length ∧ k ≤ 100 ∧ i = .int .i64 k ∧ s = .string (mkB z) ∧ z.length ≤ 2100 ∧ Hid (z = joinO (W.take k)) ∧ Hid (∀ x ∈ W.take k, GoodF n x)) (fun _ i => W.length - (intOf i).toNat)
  case atStart => exact ⟨0, [], Nat.zero_le _, by omega, rfl, rfl, by simp, Lib.hid rfl, Lib.hid (fun x hx => by simp at hx)⟩
  case round =>
    obtain ⟨k, z, hk, hk100, rfl, rfl, hzl, hZ, hG⟩ := hrel
    by_cases hlt : k < W.length ∧ k < 100
    · obtain ⟨hlt, hlt2⟩ := hlt
      have hne : W.map strV ≠ [] := by intro e; have := congrArg List.length e; simp at this; rw [this] at hlt; simp at hlt
      obtain ⟨b, off, c', hv, hcc, hblt, hcell⟩ := HS.out.shape hne
      have hac : a0 = some ⟨b, off, none⟩ ∧ c0 = c' := by simp at hv; exact hv
      obtain ⟨rfl, rfl⟩ := hac
      have x1 := hcell k (by simpa using hlt)
      rw [List.getElem_map] at x1
      have hxm := HWm.out W[k] (List.getElem_mem hlt)
      have htk := good_more (n := n) W k hlt hG.out
      have hz0 := fun h => join_take0 W k hlt h z hZ.out
      have hz1 := fun h => join_take1 W k hlt h z hZ.out
      have hg20 := good_20 hG.out
      rw [← hZ.out, List.length_take] at hg20
      generalize W[k] = x at x1 hxm htk hz0 hz1
      have HTk := Lib.hid htk
      have HZ0 := Lib.hid hz0
      have HZ1 := Lib.hid hz1
      have hxs := mkB_size x
      have hzs := mkB_size z
      unfold maxLen at hxm
      unfold strV at x1
      clear htk hz0 hz1 hcell hv hne
      by_cases e1 : x.length = 0
      · have e1' := List.length_eq_zero_iff.1 e1
        subst e1'
        go_wp2_with (go_at_call 7; refine (awake44 m _ HK.out).mono ?_; rintro e w1 ⟨rfl, hb1⟩)
        go_ret
        exact ⟨rfl, hb1⟩
      · have hx0 : ((x.length : Int) == 0) = false := by rw [beq_eq_false_iff_ne]; omega
        have hxn : ¬ x = [] := fun e => e1 (by rw [e]; rfl)
        by_cases e2 : n < x.length
        · clear e1
          go_wp2_with (go_at_call 7; refine (awake44 m _ HK.out).mono ?_; rintro e w1 ⟨rfl, hb1⟩)
          go_ret
          exact ⟨rfl, hb1⟩
        · by_cases e3 : 20 < x.length
          · clear e1
            go_wp2_with (go_at_call 7; refine (awake44 m _ HK.out).mono ?_; rintro e w1 ⟨rfl, hb1⟩)
            go_ret
            exact ⟨rfl, hb1⟩
          · clear e1
            go_wp2_with fail
            go_loop [9] (fun i => ∃ j : Nat, j ≤ x.length ∧ i = .int .i64 j ∧ Hid (∀ y ∈ x.take j, y ≠ 32 ∧ y ≠ 10)) (fun i => x.length - (intOf i).toNat)
            case atStart => exact ⟨0, Nat.zero_le _, rfl, Lib.hid (fun y hy => by simp at hy)⟩
            case round =>
              obtain ⟨j, hj, rfl, hB⟩ := hrel
              by_cases hjt : j < x.length
              · have hsz : j < (mkB x).size := by rw [hxs]; exact hjt
                have hbt : (mkB x)[j]'hsz = x[j] := mkB_get x j _ _
                have HB2 := Lib.hid (take_more x j hjt _ hB.out)
                generalize x[j] = c at hbt HB2
                by_cases c1 : c = 32
                · have f1 : ((c.toNat : Int) == 32) = true := by rw [c1]; rfl
                  clear c1
                  go_wp2_with (go_at_call 7; refine (awake44 m _ HK.out).mono ?_; rintro e w1 ⟨rfl, hb1⟩)
                  go_ret
                  exact ⟨rfl, hb1⟩
                · by_cases c2 : c = 10
                  · have f1 : ((c.toNat : Int) == 32) = false := u8_ne (d := 32) c1
                    have f2 : ((c.toNat : Int) == 10) = true := by rw [c2]; rfl
                    clear c1 c2
                    go_wp2_with (go_at_call 7; refine (awake44 m _ HK.out).mono ?_; rintro e w1 ⟨rfl, hb1⟩)
                    go_ret
                    exact ⟨rfl, hb1⟩
                  · have f1 : ((c.toNat : Int) == 32) = false := u8_ne (d := 32) c1
                    have f2 : ((c.toNat : Int) == 10) = false := u8_ne (d := 10) c2
                    have HB3 := Lib.hid (HB2.out ⟨c1, c2⟩)
                    clear c1 c2
                    go_wp2
                    go_round
                    case rel => exact ⟨j + 1, hjt, by go_num, HB3⟩
                    case measure => simp [intOf]; omega
              · have hgd : Hid (GoodF n x) := Lib.hid ⟨hxn, by omega, fun h => by
                  have := hB.out 32 (by rw [List.take_of_length_le (by omega)]; exact h)
                  exact this.1 rfl, fun h => by
                  have := hB.out 10 (by rw [List.take_of_length_le (by omega)]; exact h)
                  exact this.2 rfl, by omega⟩
                have HTk2 := Lib.hid (HTk.out hgd.out)
                by_cases k0 : k = 0
                · have HZ2 := Lib.hid (HZ0.out k0)
                  have HC : Hid (mkB z ++ mkB x = mkB (z ++ x)) := Lib.hid (mkB_app _ _)
                  have k1 : ¬ 0 < k := by omega
                  clear k0
                  go_wp2
                  go_round
                  case rel => exact ⟨k + 1, _, by omega, by omega, by go_num, congrArg Value.string HC.out, by simp; omega, HZ2, HTk2⟩
                  case measure => simp [intOf]; omega
                · have k1 : 0 < k := by omega
                  have HZ2 := Lib.hid (HZ1.out k1)
                  have HC : Hid (mkB z ++ (⟨#[32]⟩ : ByteArray) ++ mkB x = mkB (z ++ [32] ++ x)) := Lib.hid (by rw [show (⟨#[32]⟩ : ByteArray) = mkB [32] from rfl, mkB_app, mkB_app])
                  have hz3 : (mkB z ++ (⟨#[32]⟩ : ByteArray)).size = z.length + 1 := by rw [show (⟨#[32]⟩ : ByteArray) = mkB [32] from rfl, mkB_app, mkB_size]; simp
                  clear k0
                  go_wp2
                  go_round
                  case rel => exact ⟨k + 1, _, by omega, by omega, by go_num, congrArg Value.string HC.out, by simp; omega, HZ2, HTk2⟩
                  case measure => simp [intOf]; omega
    · have hgd : ∀ x ∈ W.take k, x ≠ [] ∧ x.length ≤ n ∧ (32 : UInt8) ∉ x ∧ (10 : UInt8) ∉ x := fun x hx => ⟨(hG.out x hx).1, (hG.out x hx).2.1, (hG.out x hx).2.2.1, (hG.out x hx).2.2.2.1⟩
      have hfit := wrap_fits n (W.take k) hgd
      rw [← hZ.out] at hfit
      have hwt := wrap_tot n z
      have hwl := tot_length (wrapO n z)
      have HWz := Lib.hid (HWr.out z w (by omega) HK.out)
      obtain ⟨L, hL⟩ : ∃ L, wrapO n z = L := ⟨_, rfl⟩
      rw [hL] at hfit hwt hwl HWz
      have HJ : Hid (joinO L = z) := Lib.hid (by rw [hfit.join, hZ.out])
      have HN := Lib.hid hfit.ne
      have HT := Lib.hid (tight_at n L hfit.tight)
      have hLm2 : L.length ≤ maxLen := by unfold maxLen; omega
      have hzs := mkB_size z
      clear hL hfit hgd
      by_cases hk1 : k < W.length
      · have hk2 : ¬ k < 100 := fun h => hlt ⟨hk1, h⟩
        clear hlt
        go_wp2_with fail
        refine HWz.out.mono ?_
        rintro e w1 ⟨v1, rfl, o1, hb1⟩
        have HC1 := Lib.hid (SLC.own o1 hLm2)
        obtain ⟨a1, c1, hv1⟩ := o1.sl hLm2 |>.len
        rw [List.length_map] at hv1
        subst hv1
        have Hb1 := Lib.hid hb1
        clear o1 hb1
        go_wp2_with fail
        go_loop [11, 12] (fun a i => ∃ (p : Nat) (y : List UInt8), p ≤ L.length ∧ i = .int .i64 p ∧ a = .string (mkB y) ∧ y.length ≤ 8404 ∧ Hid (y = joinO (L.take p))) (fun _ i => L.length - (intOf i).toNat)
        case atStart => exact ⟨0, [], Nat.zero_le _, rfl, rfl, by simp, Lib.hid rfl⟩
        case round =>
          obtain ⟨p, y, hp, rfl, rfl, hyl, hY⟩ := hrel
          have hys := mkB_size y
          by_cases hpt : p < L.length
          · have hne : L.map strV ≠ [] := by intro e; have := congrArg List.length e; simp at this; rw [this] at hpt; simp at hpt
            obtain ⟨b, off, c', hv, hcc, hblt, hcell⟩ := HC1.out.shape hne
            have hac : a1 = some ⟨b, off, none⟩ ∧ c1 = c' := by simp at hv; exact hv
            obtain ⟨rfl, rfl⟩ := hac
            have x1 := hcell p (by simpa using hpt)
            rw [List.getElem_map] at x1
            have hnx := HN.out L[p] (List.getElem_mem hpt)
            have hz0 := fun h => join_take0 L p hpt h y hY.out
            have hz1 := fun h => join_take1 L p hpt h y hY.out
            have hjb := take_bd L (p + 1)
            have htt : ∀ h : 0 < p, n < (L[p - 1]'(by omega)).length + 1 + firstO L[p] := fun h => by
              have := HT.out (p - 1) (by omega)
              simpa only [show p - 1 + 1 = p by omega] using this
            have hx3 : ∀ h : 0 < p, w1.cell? ⟨b, off + (p - 1), none⟩ = some (strV (L[p - 1]'(by omega))) := fun h => by
              have := hcell (p - 1) (by simp; omega)
              rw [List.getElem_map] at this; exact this
            have hn3 : ∀ h : 0 < p, (L[p - 1]'(by omega)).length ≤ n := fun h => (HN.out _ (List.getElem_mem _)).2
            generalize L[p] = x at x1 hnx hz0 hz1 htt
            obtain ⟨hxn, hxl⟩ := hnx
            have hx0 : ((x.length : Int) == 0) = false := by
              rw [beq_eq_false_iff_ne]
              intro e
              exact hxn (List.length_eq_zero_iff.1 (by omega))
            have hxs := mkB_size x
            have hxq : ¬ n < x.length := by omega
            unfold strV at x1
            by_cases p0 : p = 0
            · have hj := hz0 p0
              rw [← hj] at hjb
              have HZ2 := Lib.hid hj
              have HC : Hid (mkB y ++ mkB x = mkB (y ++ x)) := Lib.hid (mkB_app _ _)
              have p1 : ¬ 0 < p := by omega
              simp at hjb
              clear p0 hj hz0 hz1 htt hx3 hn3 hne hv hcell
              go_wp2
              go_round
              case rel => exact ⟨p + 1, _, by omega, by go_num, congrArg Value.string HC.out, by simp; omega, HZ2⟩
              case measure => simp [intOf]; omega
            · have p1 : 0 < p := by omega
              have hj := hz1 p1
              rw [← hj] at hjb
              have HZ2 := Lib.hid hj
              have HC : Hid (mkB y ++ (⟨#[32]⟩ : ByteArray) ++ mkB x = mkB (y ++ [32] ++ x)) := Lib.hid (by rw [show (⟨#[32]⟩ : ByteArray) = mkB [32] from rfl, mkB_app, mkB_app])
              have hy3 : (mkB y ++ (⟨#[32]⟩ : ByteArray)).size = y.length + 1 := by rw [show (⟨#[32]⟩ : ByteArray) = mkB [32] from rfl, mkB_app, mkB_size]; simp
              have hx3' := hx3 p1
              have htt' := htt p1
              have hn3' := hn3 p1
              generalize L[p - 1]'(by omega) = x3 at hx3' htt' hn3'
              have hxs3 := mkB_size x3
              unfold strV at hx3'
              have hfl := first_le x
              have HFi := Lib.hid (first_in x)
              have HFe := Lib.hid (first_end x)
              obtain ⟨f, hf⟩ : ∃ f, firstO x = f := ⟨_, rfl⟩
              rw [hf] at htt' hfl HFi
              have HFe2 : Hid (∀ h : f < x.length, x[f] = 32) := Lib.hid (by rw [← hf]; exact HFe.out)
              simp at hjb
              have p1i : (1 : Int) ≤ (p : Int) := by omega
              clear p0 hj hz0 hz1 htt hx3 hn3 hne hv hcell hf HFe
              go_wp2_with fail
              go_loop [13] (fun i => ∃ j : Nat, j ≤ f ∧ i = .int .i64 j) (fun i => f - (intOf i).toNat)
              case atStart => exact ⟨0, Nat.zero_le _, rfl⟩
              case round =>
                obtain ⟨j, hj, rfl⟩ := hrel
                by_cases hjf : j < f
                · obtain ⟨h1, h2⟩ := HFi.out j hjf
                  have hsz : j < (mkB x).size := by rw [hxs]; exact h1
                  have hbt : (mkB x)[j]'hsz = x[j] := mkB_get x j _ _
                  generalize x[j] = c at hbt h2
                  have f1 : ((c.toNat : Int) != 32) = true := u8_bne (d := 32) h2
                  have f2 : ((c.toNat : Int) == 32) = false := u8_ne (d := 32) h2
                  clear h2
                  go_wp2
                  go_round
                  case rel => exact ⟨j + 1, hjf, by go_num⟩
                  case measure => simp [intOf]; omega
                · have hjf' : j = f := by omega
                  subst hjf'
                  clear hjf hj
                  by_cases hfx : j < x.length
                  · have h2 := HFe2.out hfx
                    have hsz : j < (mkB x).size := by rw [hxs]; exact hfx
                    have hbt : (mkB x)[j]'hsz = 32 := (mkB_get x j _ _).trans h2
                    clear h2
                    go_wp2
                    go_round
                    case rel => exact ⟨p + 1, _, by omega, by go_num, congrArg Value.string HC.out, by simp; omega, HZ2⟩
                    case measure => simp [intOf]; omega
                  · go_wp2
                    go_round
                    case rel => exact ⟨p + 1, _, by omega, by go_num, congrArg Value.string HC.out, by simp; omega, HZ2⟩
                    case measure => simp [intOf]; omega
          · have hyz : Hid (y = z) := Lib.hid (by rw [hY.out, List.take_of_length_le (by omega)]; exact HJ.out)
            obtain rfl := hyz.out
            go_wp2_with (go_at_call 7; refine (awake44 m _ (HK.out.below h0 Hb1.out)).mono ?_; rintro e w3 ⟨rfl, hb3⟩)
            go_ret
            exact ⟨rfl, Hb1.out.trans (hb3.mono Hb1.out.size)⟩
      · clear hlt
        go_wp2_with fail
        refine HWz.out.mono ?_
        rintro e w1 ⟨v1, rfl, o1, hb1⟩
        have HC1 := Lib.hid (SLC.own o1 hLm2)
        obtain ⟨a1, c1, hv1⟩ := o1.sl hLm2 |>.len
        rw [List.length_map] at hv1
        subst hv1
        have Hb1 := Lib.hid hb1
        clear o1 hb1
        go_wp2_with fail
        go_loop [11, 12] (fun a i => ∃ (p : Nat) (y : List UInt8), p ≤ L.length ∧ i = .int .i64 p ∧ a = .string (mkB y) ∧ y.length ≤ 8404 ∧ Hid (y = joinO (L.take p))) (fun _ i => L.length - (intOf i).toNat)
        case atStart => exact ⟨0, [], Nat.zero_le _, rfl, rfl, by simp, Lib.hid rfl⟩
        case round =>
          obtain ⟨p, y, hp, rfl, rfl, hyl, hY⟩ := hrel
          have hys := mkB_size y
          by_cases hpt : p < L.length
          · have hne : L.map strV ≠ [] := by intro e; have := congrArg List.length e; simp at this; rw [this] at hpt; simp at hpt
            obtain ⟨b, off, c', hv, hcc, hblt, hcell⟩ := HC1.out.shape hne
            have hac : a1 = some ⟨b, off, none⟩ ∧ c1 = c' := by simp at hv; exact hv
            obtain ⟨rfl, rfl⟩ := hac
            have x1 := hcell p (by simpa using hpt)
            rw [List.getElem_map] at x1
            have hnx := HN.out L[p] (List.getElem_mem hpt)
            have hz0 := fun h => join_take0 L p hpt h y hY.out
            have hz1 := fun h => join_take1 L p hpt h y hY.out
            have hjb := take_bd L (p + 1)
            have htt : ∀ h : 0 < p, n < (L[p - 1]'(by omega)).length + 1 + firstO L[p] := fun h => by
              have := HT.out (p - 1) (by omega)
              simpa only [show p - 1 + 1 = p by omega] using this
            have hx3 : ∀ h : 0 < p, w1.cell? ⟨b, off + (p - 1), none⟩ = some (strV (L[p - 1]'(by omega))) := fun h => by
              have := hcell (p - 1) (by simp; omega)
              rw [List.getElem_map] at this; exact this
            have hn3 : ∀ h : 0 < p, (L[p - 1]'(by omega)).length ≤ n := fun h => (HN.out _ (List.getElem_mem _)).2
            generalize L[p] = x at x1 hnx hz0 hz1 htt
            obtain ⟨hxn, hxl⟩ := hnx
            have hx0 : ((x.length : Int) == 0) = false := by
              rw [beq_eq_false_iff_ne]
              intro e
              exact hxn (List.length_eq_zero_iff.1 (by omega))
            have hxs := mkB_size x
            have hxq : ¬ n < x.length := by omega
            unfold strV at x1
            by_cases p0 : p = 0
            · have hj := hz0 p0
              rw [← hj] at hjb
              have HZ2 := Lib.hid hj
              have HC : Hid (mkB y ++ mkB x = mkB (y ++ x)) := Lib.hid (mkB_app _ _)
              have p1 : ¬ 0 < p := by omega
              simp at hjb
              clear p0 hj hz0 hz1 htt hx3 hn3 hne hv hcell
              go_wp2
              go_round
              case rel => exact ⟨p + 1, _, by omega, by go_num, congrArg Value.string HC.out, by simp; omega, HZ2⟩
              case measure => simp [intOf]; omega
            · have p1 : 0 < p := by omega
              have hj := hz1 p1
              rw [← hj] at hjb
              have HZ2 := Lib.hid hj
              have HC : Hid (mkB y ++ (⟨#[32]⟩ : ByteArray) ++ mkB x = mkB (y ++ [32] ++ x)) := Lib.hid (by rw [show (⟨#[32]⟩ : ByteArray) = mkB [32] from rfl, mkB_app, mkB_app])
              have hy3 : (mkB y ++ (⟨#[32]⟩ : ByteArray)).size = y.length + 1 := by rw [show (⟨#[32]⟩ : ByteArray) = mkB [32] from rfl, mkB_app, mkB_size]; simp
              have hx3' := hx3 p1
              have htt' := htt p1
              have hn3' := hn3 p1
              generalize L[p - 1]'(by omega) = x3 at hx3' htt' hn3'
              have hxs3 := mkB_size x3
              unfold strV at hx3'
              have hfl := first_le x
              have HFi := Lib.hid (first_in x)
              have HFe := Lib.hid (first_end x)
              obtain ⟨f, hf⟩ : ∃ f, firstO x = f := ⟨_, rfl⟩
              rw [hf] at htt' hfl HFi
              have HFe2 : Hid (∀ h : f < x.length, x[f] = 32) := Lib.hid (by rw [← hf]; exact HFe.out)
              simp at hjb
              have p1i : (1 : Int) ≤ (p : Int) := by omega
              clear p0 hj hz0 hz1 htt hx3 hn3 hne hv hcell hf HFe
              go_wp2_with fail
              go_loop [13] (fun i => ∃ j : Nat, j ≤ f ∧ i = .int .i64 j) (fun i => f - (intOf i).toNat)
              case atStart => exact ⟨0, Nat.zero_le _, rfl⟩
              case round =>
                obtain ⟨j, hj, rfl⟩ := hrel
                by_cases hjf : j < f
                · obtain ⟨h1, h2⟩ := HFi.out j hjf
                  have hsz : j < (mkB x).size := by rw [hxs]; exact h1
                  have hbt : (mkB x)[j]'hsz = x[j] := mkB_get x j _ _
                  generalize x[j] = c at hbt h2
                  have f1 : ((c.toNat : Int) != 32) = true := u8_bne (d := 32) h2
                  have f2 : ((c.toNat : Int) == 32) = false := u8_ne (d := 32) h2
                  clear h2
                  go_wp2
                  go_round
                  case rel => exact ⟨j + 1, hjf, by go_num⟩
                  case measure => simp [intOf]; omega
                · have hjf' : j = f := by omega
                  subst hjf'
                  clear hjf hj
                  by_cases hfx : j < x.length
                  · have h2 := HFe2.out hfx
                    have hsz : j < (mkB x).size := by rw [hxs]; exact hfx
                    have hbt : (mkB x)[j]'hsz = 32 := (mkB_get x j _ _).trans h2
                    clear h2
                    go_wp2
                    go_round
                    case rel => exact ⟨p + 1, _, by omega, by go_num, congrArg Value.string HC.out, by simp; omega, HZ2⟩
                    case measure => simp [intOf]; omega
                  · go_wp2
                    go_round
                    case rel => exact ⟨p + 1, _, by omega, by go_num, congrArg Value.string HC.out, by simp; omega, HZ2⟩
                    case measure => simp [intOf]; omega
          · have hyz : Hid (y = z) := Lib.hid (by rw [hY.out, List.take_of_length_le (by omega)]; exact HJ.out)
            obtain rfl := hyz.out
            go_wp2_with (go_at_call 7; refine (awake44 m _ (HK.out.below h0 Hb1.out)).mono ?_; rintro e w3 ⟨rfl, hb3⟩)
            go_ret
            exact ⟨rfl, Hb1.out.trans (hb3.mono Hb1.out.size)⟩
end Go.Proofs.YtfnadieccdgnnaaDoor
