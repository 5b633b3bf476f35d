/- Contract of lex.Print. -/
import Derived.Test.YtmelilppeikdiaaDoorBackPlain
import Derived.Test.YtmelilppeikdiaaDoorNumText
import Derived.Test.YtmelilppeikdiaaDoorQuote
import Derived.Test.YtmelilppeikdiaaDoorAwake09
import Derived.Test.YtmelilppeikdiaaDoorShelf
namespace Go.Proofs.YtmelilppeikdiaaDoor
open Go.RowKit Go.PlainAid
set_option linter.unusedVariables false
set_option linter.unusedSimpArgs false

theorem tab_belowP {P : Program} {w w' : World} {name : String} {k : IntKind} {zs : List Int} (h : Lib.TabIs P w name k zs) (hb : Below w.heap.size w w') : Lib.TabIs P w' name k zs := by
  unfold Lib.TabIs at *
  cases hg : P.globalNamed name with
  | none => simp [World.var?, hg] at h
  | some g =>
    have hlt : g < w.heap.size := by
      unfold World.var? at h
      simp only [hg, Option.bind_some] at h
      rcases Nat.lt_or_ge g w.heap.size with h' | h'
      · exact h'
      · simp [Array.getElem?_eq_none h'] at h
    unfold World.var? at *
    simp only [hg, Option.bind_some] at *
    rw [hb.block g hlt]; exact h

/-- A text as a value; texts that the call owns. -/
def strT (l : List UInt8) : Value := .string (mkB l)
def OwT (w : World) (base : Nat) (v : Value) (L : List (List UInt8)) : Prop := w.ownsRow base 9 1 v L.length (L.map strT)
theorem Tryd.infoS : (Tryd.prog.info? 9).map (fun i => (i.zero, i.size, i.bytes)) = some (some (.string ByteArray.empty), 1, 16) := by kernel_rfl
theorem OwT.snoc {w : World} {base : Nat} {v : Value} {L : List (List UInt8)} {x : List UInt8} (h : w.ownsRow base 9 1 v (L.length + 1) (L.map strT ++ [strT x])) : OwT w base v (L ++ [x]) := by
  unfold OwT; simpa using h
/-- The tokens ahead of the end, as they are printed. -/
def partsP (L : List TT) : List (List UInt8) := (L.takeWhile fun x => x.t.kind != 0).map fun x => prT x.t
theorem take_kind (L : List TT) (k : Nat) (h : ∀ i (hi : i < L.length), i < k → L[i].t.kind ≠ 0) (he : L.length ≤ k ∨ ∃ hk : k < L.length, L[k].t.kind = 0) : partsP L = (L.take k).map fun x => prT x.t := by
  unfold partsP
  congr 1
  induction L generalizing k with
  | nil => simp
  | cons a t ih =>
    cases k with
    | zero =>
      rcases he with he | ⟨hk, he⟩
      · simp at he
      · rw [List.takeWhile_cons, if_neg (by simpa using he)]; rfl
    | succ k =>
      have h0 := h 0 (by simp) (by omega)
      rw [List.takeWhile_cons, if_pos (by simpa using h0), List.take_succ_cons]
      congr 1
      refine ih k (fun i hi hik => ?_) ?_
      · have := h (i + 1) (by simpa using hi) (by omega); simpa using this
      · rcases he with he | ⟨hk, he⟩
        · left; simpa using he
        · right; exact ⟨by simpa using hk, by simpa using he⟩
/-- How much a token prints at most. -/
theorem pr_bound (T : TK) (h : T.text.length ≤ 1024) (hn : -9223372036854775808 ≤ T.num ∧ T.num ≤ 9223372036854775807) : (prT T).length ≤ 2050 := by
  unfold prT
  split
  · have h1 : T.num.natAbs < 18446744073709551616 := by omega
    have := dec_len T.num.natAbs h1
    rw [mk_size] at this
    unfold Lib.itoa
    split
    · simp; omega
    · have e : T.num.toNat = T.num.natAbs := by omega
      rw [e]; omega
  · split
    · have := (qL_len T.text).2
      simp [quoteL]; omega
    · split
      · omega
      · simp
theorem join_bound (P : List (List UInt8)) (h : ∀ x ∈ P, x.length ≤ 2050) : (Lib.join P [32]).length ≤ 2051 * P.length := by
  cases P with
  | nil => simp [Lib.join_nil]
  | cons a t =>
    rw [Lib.join_cons]
    have h1 := h a (List.mem_cons_self ..)
    have : ∀ r : List (List UInt8), (∀ x ∈ r, x.length ≤ 2050) → (Lib.joinTail [32] r).length ≤ 2051 * r.length := by
      intro r
      induction r with
      | nil => intro _; simp [Lib.joinTail]
      | cons b u ih =>
        intro hr
        have h2 := hr b (List.mem_cons_self ..)
        have h3 := ih (fun x hx => hr x (List.mem_cons_of_mem _ hx))
        unfold Lib.joinTail at h3 ⊢
        simp at h3 ⊢; omega
    have := this t (fun x hx => h x (List.mem_cons_of_mem _ hx))
    simp; omega
theorem joinPart (v : Value) (P : List (List UInt8)) (w : World) (base : Nat) (h : OwT w base v P) (hP : P.length ≤ 1000) (hb : ∀ x ∈ P, x.length ≤ 2050) :
    Calls Tryd.prog 12 #[v, .string ⟨#[32]⟩] w fun e w' => e = .returned (.string (mkB (Lib.join P [32]))) ∧ Below w.heap.size w w' := by
  rcases h.2 with ⟨rfl, h0⟩ | ⟨g, cap, cur, rfl, _, hg, hnc, _⟩
  · have : P = [] := List.length_eq_zero_iff.1 (by first | exact h0 | (have := congrArg List.length h0; simpa using this))
    subst this
    exact (Tryd.strings_Join_none none 0 ⟨#[32]⟩ w).mono fun e w' ⟨h1, h2⟩ => ⟨h1, by rw [h2]; exact Below.refl _ _⟩
  · have hjb := join_bound P hb
    have e1 : (P.map mkB).map (·.data.toList) = P := by rw [List.map_map]; simp [Function.comp_def, mkB_data]
    have hc := Tryd.strings_Join g 0 cap (P.map mkB) ⟨#[32]⟩ w (fun j x hx => by
      rw [List.getElem?_map] at hx
      obtain ⟨y, hy, rfl⟩ := Option.map_eq_some_iff.1 hx
      obtain ⟨hj, rfl⟩ := List.getElem?_eq_some_iff.1 hy
      rw [Nat.zero_add, h.cellAt j (by omega), List.getElem?_map, List.getElem?_eq_getElem hj]; rfl) (lt_of_block hg) (by simp; omega) (by simpa using hnc) (by rw [e1]; show (Lib.join P [32]).length ≤ _; omega)
    rw [e1, List.length_map] at hc
    exact hc
theorem one_at {w : World} {v : Value} {T : TypeId} {n : Nat} (h : w.heap.size = n) : ∀ j u, [v][j]? = some u → (w.alloc (.cells #[v] T)).cell? ((⟨n, 0, none⟩ : Addr).add j) = some u := by
  subst h; exact cell_one_new _ _ _
set_option maxRecDepth 100000 in
set_option maxHeartbeats 8000000 in
theorem lexPrint (v : Value) (L : List TT) (w : World) (hS : SLN 5 w v (tokRows L)) (hL : L.length ≤ 1000) (hT : ∀ x ∈ L, x.t.text.length ≤ 1024 ∧ -9223372036854775808 ≤ x.t.num ∧ x.t.num ≤ 9223372036854775807)
    (htab : Lib.TabIs Tryd.prog w "internal/strconv.uint64pow10" .u64 Lib.pow10Tab) :
    Calls Tryd.prog 6 #[v] w fun e w' => e = .returned (.string (mkB (Lib.join (partsP L) [32]))) ∧ Below w.heap.size w w' := by
  obtain ⟨i0, hi, hz0, hz1, hz2⟩ := info_parts Tryd.infoS
  have hrl : (tokRows L).length = L.length := by simp [tokRows]
  obtain ⟨a0, c0, hv0⟩ := hS.len
  rw [hrl] at hv0
  have HS := Lib.hid hS
  have HT := Lib.hid hT
  have HTab := Lib.hid htab
  subst hv0
  clear hS hT htab
  go_enter Tryd.func6, Tryd.ntmps6
  go_wp2
  go_loopw [3, 8] (fun p i wr => ∃ (k : Nat), i = .int .i64 k ∧ k ≤ L.length ∧ Hid (OwT wr w.heap.size p ((L.take k).map fun x => prT x.t)) ∧ Hid (Below w.heap.size w wr) ∧ Hid (∀ i (hi : i < L.length), i < k → L[i].t.kind ≠ 0)) (fun _ i _ => L.length - (intOf i).toNat)
  case atStart => exact ⟨0, rfl, Nat.zero_le _, Lib.hid (World.ownsRow_nil _ _ _ _), Lib.hid (Below.refl _ _), Lib.hid (fun i hi h => by omega)⟩
  case round =>
    obtain ⟨k, rfl, hk, hO, hBl, hK⟩ := hrel
    obtain ⟨va, vc, hv⟩ := ow_shape hO.out
    have hPb : Hid (∀ x ∈ (L.take k).map fun x => prT x.t, x.length ≤ 2050) := Lib.hid (fun x hx => by
      obtain ⟨y, hy, rfl⟩ := List.mem_map.1 hx
      have := HT.out y (List.mem_of_mem_take hy)
      exact pr_bound _ this.1 this.2)
    by_cases hlt : k < L.length
    · have hr : k < (tokRows L).length := by rw [hrl]; exact hlt
      obtain ⟨b, off, c, hv', hblt, hcell⟩ := HS.out.open (by omega)
      have hac : a0 = some ⟨b, off, none⟩ := by simp at hv'; exact hv'.1
      subst hac
      have hx : (tokRows L)[k] = tokCells L[k] := by simp [tokRows]
      have hkx : ∀ (h : L[k].t.kind ≠ 0), Hid (∀ i (hi : i < L.length), i < k + 1 → L[i].t.kind ≠ 0) := fun h => Lib.hid (fun i hi h2 => by
        by_cases e : i = k
        · subst e; exact h
        · exact hK.out i hi (by omega))
      have hend : ∀ (h : L[k].t.kind = 0), Hid (partsP L = (L.take k).map fun x => prT x.t) := fun h => Lib.hid (take_kind L k hK.out (.inr ⟨hlt, h⟩))
      have HPk : (L.take k).map (fun x => prT x.t) ++ [prT L[k].t] = (L.take (k + 1)).map fun x => prT x.t := by
        rw [List.take_succ_eq_append_getElem hlt, List.map_append]; rfl
      have hTx := HT.out L[k] (List.getElem_mem hlt)
      have a0' : ∀ j, j < 5 → wr.cell? ⟨b, off + k * 5 + j, none⟩ = (tokCells L[k])[j]? := fun j hj => by
        rw [← hx]; exact (hBl.out.cell (p := ⟨b, off + k * 5 + j, none⟩) hblt).trans (hcell k j hr hj)
      have e0 := a0' 0 (by decide)
      have e1 := a0' 1 (by decide)
      have e2 := a0' 2 (by decide)
      have e3 := a0' 3 (by decide)
      have e4 := a0' 4 (by decide)
      clear a0'
      generalize L[k] = x at e0 e1 e2 e3 e4 hkx hend HPk hTx
      simp [tokCells] at e0 e1 e2 e3 e4
      have HPk := Lib.hid HPk
      obtain ⟨P, hP⟩ : ∃ P, (L.take k).map (fun x => prT x.t) = P := ⟨_, rfl⟩
      have hPl : P.length = k := by rw [← hP]; simp; omega
      rw [hP] at hO hv HPk hPb hend
      rw [hPl] at hv
      have hbm : k + 1 ≤ maxLen ∧ (k + 1) * 16 ≤ 140737488355328 := by unfold maxLen; omega
      have hsz := hBl.out.size
      have HO : Hid (wr.ownsRow w.heap.size 9 1 (.slice va k vc) k (P.map strT)) := Lib.hid (by have := hO.out; unfold OwT at this; rw [hPl, hv] at this; exact this)
      subst hv
      obtain ⟨κ, hκ⟩ : ∃ κ, x.t.kind = κ := ⟨_, rfl⟩
      rw [hκ] at e0 hkx hend
      have hpr : prT x.t = if κ = 2 then Lib.itoa x.t.num else if κ = 3 then quoteL x.t.text else if κ = 1 ∨ κ = 4 ∨ κ = 5 then x.t.text else [] := by rw [← hκ]; rfl
      clear hv' hcell hx hκ hP hr
      by_cases k0 : κ = 0
      · have HE := hend k0
        subst k0
        go_wp2_with fail
        refine (joinPart _ P _ w.heap.size (by unfold OwT; rw [hPl]; exact HO.out.alloc _) (by omega) hPb.out).mono ?_
        rintro e w4 ⟨rfl, hb4⟩
        go_wp2
        go_ret
        exact ⟨ret_s (by rw [HE.out]), (bl_a hBl.out _).trans (hb4.mono (by simp; omega))⟩
      · have HK2 := hkx k0
        have f0 : (κ == 0) = false := by simpa using k0
        clear hkx hend
        by_cases k1 : κ = 1
        · subst k1
          have Htx : Hid (prT x.t = x.t.text) := Lib.hid (by rw [hpr]; simp)
          clear hpr f0 k0
          go_wp2_with (first
            | (at_builtin; refine wpList_append_own _ rfl _ _ 36 rfl w.heap.size 9 i0 (.string ByteArray.empty) 1 16 Tryd.underlying36 hi hz0 hz1 hz2 rfl (by decide) (.slice va k vc) k (P.map strT) rfl ((HO.out.alloc _).alloc _) ⟨_, 0, none⟩ 1 1 [.string (mkB (x.t.text))] rfl rfl (one_at (by simp)) (ow_one rfl) hbm.1 hbm.2 (by simp; omega) ?_; intro v5 w5 hown5 hgrow5 _))
          have HO5 : Hid (OwT w5 w.heap.size v5 ((L.take (k + 1)).map fun x => prT x.t)) := Lib.hid (by
            rw [← HPk.out, Htx.out]
            exact OwT.snoc (by rw [hPl]; exact hown5))
          have HB5 : Hid (Below w.heap.size w w5) := Lib.hid ((bl_a (bl_a hBl.out _) _).grown hgrow5 (by simp; omega) (ow_lo HO.out))
          clear hown5 hgrow5
          go_roundw
          case rel => exact ⟨k + 1, by go_num, hlt, HO5, HB5, HK2⟩
          case measure => simp [intOf]; omega
        · by_cases k4 : κ = 4
          · subst k4
            have Htx : Hid (prT x.t = x.t.text) := Lib.hid (by rw [hpr]; simp)
            clear hpr f0 k0 k1
            go_wp2_with (first
              | (at_builtin; refine wpList_append_own _ rfl _ _ 36 rfl w.heap.size 9 i0 (.string ByteArray.empty) 1 16 Tryd.underlying36 hi hz0 hz1 hz2 rfl (by decide) (.slice va k vc) k (P.map strT) rfl ((HO.out.alloc _).alloc _) ⟨_, 0, none⟩ 1 1 [.string (mkB (x.t.text))] rfl rfl (one_at (by simp)) (ow_one rfl) hbm.1 hbm.2 (by simp; omega) ?_; intro v5 w5 hown5 hgrow5 _))
            have HO5 : Hid (OwT w5 w.heap.size v5 ((L.take (k + 1)).map fun x => prT x.t)) := Lib.hid (by
              rw [← HPk.out, Htx.out]
              exact OwT.snoc (by rw [hPl]; exact hown5))
            have HB5 : Hid (Below w.heap.size w w5) := Lib.hid ((bl_a (bl_a hBl.out _) _).grown hgrow5 (by simp; omega) (ow_lo HO.out))
            clear hown5 hgrow5
            go_roundw
            case rel => exact ⟨k + 1, by go_num, hlt, HO5, HB5, HK2⟩
            case measure => simp [intOf]; omega
          · by_cases k5 : κ = 5
            · subst k5
              have Htx : Hid (prT x.t = x.t.text) := Lib.hid (by rw [hpr]; simp)
              clear hpr f0 k0 k1 k4
              go_wp2_with (first
                | (at_builtin; refine wpList_append_own _ rfl _ _ 36 rfl w.heap.size 9 i0 (.string ByteArray.empty) 1 16 Tryd.underlying36 hi hz0 hz1 hz2 rfl (by decide) (.slice va k vc) k (P.map strT) rfl ((HO.out.alloc _).alloc _) ⟨_, 0, none⟩ 1 1 [.string (mkB (x.t.text))] rfl rfl (one_at (by simp)) (ow_one rfl) hbm.1 hbm.2 (by simp; omega) ?_; intro v5 w5 hown5 hgrow5 _))
              have HO5 : Hid (OwT w5 w.heap.size v5 ((L.take (k + 1)).map fun x => prT x.t)) := Lib.hid (by
                rw [← HPk.out, Htx.out]
                exact OwT.snoc (by rw [hPl]; exact hown5))
              have HB5 : Hid (Below w.heap.size w w5) := Lib.hid ((bl_a (bl_a hBl.out _) _).grown hgrow5 (by simp; omega) (ow_lo HO.out))
              clear hown5 hgrow5
              go_roundw
              case rel => exact ⟨k + 1, by go_num, hlt, HO5, HB5, HK2⟩
              case measure => simp [intOf]; omega
            · by_cases k2 : κ = 2
              · subst k2
                have Htx : Hid (prT x.t = Lib.itoa x.t.num) := Lib.hid (by rw [hpr]; simp)
                have HN := Lib.hid (fun w h => numText x.t.num w hTx.2.1 hTx.2.2 h)
                clear hpr f0 k0 k1 k4 k5
                go_wp2_with fail
                refine (HN.out _ (tab_belowP HTab.out (bl_a hBl.out _))).mono ?_
                rintro e w4 ⟨rfl, hb4⟩
                have HB4 : Hid (Below w.heap.size w w4) := Lib.hid ((bl_a hBl.out _).trans (hb4.mono (by simp; omega)))
                have HO4 := Lib.hid (ow_below (HO.out.alloc _) hb4)
                have hz4 := HB4.out.size
                clear hb4
                go_wp2_with (first
                  | (at_builtin; refine wpList_append_own _ rfl _ _ 36 rfl w.heap.size 9 i0 (.string ByteArray.empty) 1 16 Tryd.underlying36 hi hz0 hz1 hz2 rfl (by decide) (.slice va k vc) k (P.map strT) rfl (HO4.out.alloc _) ⟨_, 0, none⟩ 1 1 [.string (mkB (Lib.itoa x.t.num))] rfl rfl (one_at (by simp)) (ow_one rfl) hbm.1 hbm.2 (by simp; omega) ?_; intro v5 w5 hown5 hgrow5 _))
                have HO5 : Hid (OwT w5 w.heap.size v5 ((L.take (k + 1)).map fun x => prT x.t)) := Lib.hid (by
                  rw [← HPk.out, Htx.out]
                  exact OwT.snoc (by rw [hPl]; exact hown5))
                have HB5 : Hid (Below w.heap.size w w5) := Lib.hid ((bl_a HB4.out _).grown hgrow5 (by simp; omega) (ow_lo HO.out))
                clear hown5 hgrow5
                go_roundw
                case rel => exact ⟨k + 1, by go_num, hlt, HO5, HB5, HK2⟩
                case measure => simp [intOf]; omega
              · by_cases k3 : κ = 3
                · subst k3
                  have Htx : Hid (prT x.t = quoteL x.t.text) := Lib.hid (by rw [hpr]; simp)
                  have HQ : Hid (∀ w, Calls Tryd.prog 8 #[.string (mkB x.t.text)] w fun e w' => e = .returned (.string (mkB (quoteL x.t.text))) ∧ Below w.heap.size w w') := Lib.hid (fun w => lexQuote (mkB x.t.text) w (by rw [mkB_size]; omega))
                  clear hpr f0 k0 k1 k4 k5 k2
                  go_wp2_with fail
                  refine (HQ.out _).mono ?_
                  rintro e w4 ⟨rfl, hb4⟩
                  have HB4 : Hid (Below w.heap.size w w4) := Lib.hid ((bl_a hBl.out _).trans (hb4.mono (by simp; omega)))
                  have HO4 := Lib.hid (ow_below (HO.out.alloc _) hb4)
                  have hz4 := HB4.out.size
                  clear hb4
                  go_wp2_with (first
                    | (at_builtin; refine wpList_append_own _ rfl _ _ 36 rfl w.heap.size 9 i0 (.string ByteArray.empty) 1 16 Tryd.underlying36 hi hz0 hz1 hz2 rfl (by decide) (.slice va k vc) k (P.map strT) rfl (HO4.out.alloc _) ⟨_, 0, none⟩ 1 1 [.string (mkB (quoteL x.t.text))] rfl rfl (one_at (by simp)) (ow_one rfl) hbm.1 hbm.2 (by simp; omega) ?_; intro v5 w5 hown5 hgrow5 _))
                  have HO5 : Hid (OwT w5 w.heap.size v5 ((L.take (k + 1)).map fun x => prT x.t)) := Lib.hid (by
                    rw [← HPk.out, Htx.out]
                    exact OwT.snoc (by rw [hPl]; exact hown5))
                  have HB5 : Hid (Below w.heap.size w w5) := Lib.hid ((bl_a HB4.out _).grown hgrow5 (by simp; omega) (ow_lo HO.out))
                  clear hown5 hgrow5
                  go_roundw
                  case rel => exact ⟨k + 1, by go_num, hlt, HO5, HB5, HK2⟩
                  case measure => simp [intOf]; omega
                · have Htx : Hid (prT x.t = []) := Lib.hid (by rw [hpr]; simp [k1, k2, k3, k4, k5])
                  have f1 : (κ == 1) = false := by simpa using k1
                  have f2 : (κ == 2) = false := by simpa using k2
                  have f3 : (κ == 3) = false := by simpa using k3
                  have f4 : (κ == 4) = false := by simpa using k4
                  have f5 : (κ == 5) = false := by simpa using k5
                  clear hpr k0 k1 k2 k3 k4 k5
                  go_wp2_with (first
                    | (at_builtin; refine wpList_append_own _ rfl _ _ 36 rfl w.heap.size 9 i0 (.string ByteArray.empty) 1 16 Tryd.underlying36 hi hz0 hz1 hz2 rfl (by decide) (.slice va k vc) k (P.map strT) rfl ((HO.out.alloc _).alloc _) ⟨_, 0, none⟩ 1 1 [.string (mkB ([]))] rfl rfl (one_at (by simp)) (ow_one rfl) hbm.1 hbm.2 (by simp; omega) ?_; intro v5 w5 hown5 hgrow5 _))
                  have HO5 : Hid (OwT w5 w.heap.size v5 ((L.take (k + 1)).map fun x => prT x.t)) := Lib.hid (by
                    rw [← HPk.out, Htx.out]
                    exact OwT.snoc (by rw [hPl]; exact hown5))
                  have HB5 : Hid (Below w.heap.size w w5) := Lib.hid ((bl_a (bl_a hBl.out _) _).grown hgrow5 (by simp; omega) (ow_lo HO.out))
                  clear hown5 hgrow5
                  go_roundw
                  case rel => exact ⟨k + 1, by go_num, hlt, HO5, HB5, HK2⟩
                  case measure => simp [intOf]; omega
    · have HE := Lib.hid (take_kind L k hK.out (.inl (by omega)))
      obtain ⟨P, hP⟩ : ∃ P, (L.take k).map (fun x => prT x.t) = P := ⟨_, rfl⟩
      have hPl : P.length = k := by rw [← hP]; simp; omega
      rw [hP] at hO hv HE hPb
      rw [hPl] at hv
      have HO : Hid (OwT wr w.heap.size (.slice va k vc) P) := Lib.hid (by have := hO.out; rw [hv] at this; exact this)
      have hsz := hBl.out.size
      subst hv
      clear hP
      go_wp2_with fail
      refine (joinPart _ P _ w.heap.size HO.out (by omega) hPb.out).mono ?_
      rintro e w4 ⟨rfl, hb4⟩
      go_wp2
      go_ret
      exact ⟨ret_s (by rw [HE.out]), hBl.out.trans (hb4.mono hsz)⟩
end Go.Proofs.YtmelilppeikdiaaDoor
