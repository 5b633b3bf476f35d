/- Contracts of clewref09.Quote and clewref09.Print. -/
import Derived.Test.YtmelilppeikdiaaDoorPrint
namespace Go.Proofs.YtmelilppeikdiaaDoor
open Go.RowKit Go.PlainAid
set_option linter.unusedVariables false
set_option linter.unusedSimpArgs false

theorem ext_byte (s : ByteArray) (k : Nat) (h : k < s.data.toList.length) : s.extract k (k + 1) = mkB [s.data.toList[k]] := by
  rw [ext_sfx]
  unfold sfx
  rw [List.drop_eq_getElem_cons h]; rfl
set_option maxHeartbeats 4000000 in
theorem refQuote (s : ByteArray) (w : World) (hs : s.size ≤ 100000) :
    Calls Tryd.prog 9 #[.string s] w fun e w' => e = .returned (.string (mkB (quoteL s.data.toList))) ∧ w = w' := by
  have hb := get_bt s
  go_enter Tryd.func9, Tryd.ntmps9
  go_wp2_with fail
  go_loop [3, 4] (fun o p => ∃ (k : Nat) (z : List UInt8), k ≤ s.size ∧ p = .int .i64 k ∧ o = .string (mkB z) ∧ z.length ≤ 2 * k + 1 ∧ Hid (z = 34 :: qL (s.data.toList.take k))) (fun _ p => s.size - (intOf p).toNat)
  case atStart => exact ⟨0, [34], by omega, rfl, rfl, by simp, Lib.hid rfl⟩
  case round =>
    obtain ⟨k, z, hk, rfl, rfl, hzl, hZ⟩ := hrel
    have hzs := mkB_size z
    by_cases hks : k < s.size
    · have hkl : k < s.data.toList.length := by simpa using hks
      have HQ := Lib.hid (qL_snoc s k hkl)
      have HX := Lib.hid (ext_byte s k hkl)
      obtain ⟨x, hx⟩ : ∃ x, s.data.toList[k] = x := ⟨_, rfl⟩
      have hxv : iv x = bt s k := by rw [bt_at' s k hkl, hx]; rfl
      rw [hx] at HQ HX
      by_cases h10 : bt s k = 10
      · have hq : qB x = [92, 110] := by unfold qB; rw [if_pos (by rw [hxv]; exact h10)]
        have h10' : (bt s k == 10) = true := by simp [h10]
        have HZ2 : Hid (z ++ [92, 110] = 34 :: qL (s.data.toList.take (k + 1))) := Lib.hid (by rw [hZ.out, HQ.out, hq]; rfl)
        have HC : Hid (mkB z ++ (⟨#[92, 110]⟩ : ByteArray) = mkB (z ++ [92, 110])) := Lib.hid (by rw [show (⟨#[92, 110]⟩ : ByteArray) = mkB [92, 110] from rfl, mkB_app])
        clear h10 hq hx hxv hkl
        go_wp2
        go_round
        case rel => exact ⟨k + 1, _, hks, by go_num, congrArg Value.string HC.out, by simp; omega, HZ2⟩
        case measure => simp [intOf]; omega
      · have h10' : (bt s k == 10) = false := by simp [h10]
        by_cases hq2 : bt s k = 34 ∨ bt s k = 92
        · have hq : qB x = [92, x] := by unfold qB; rw [if_neg (by rw [hxv]; exact h10), if_pos (by rw [hxv]; exact hq2)]
          have HZ2 : Hid (z ++ [92] ++ [x] = 34 :: qL (s.data.toList.take (k + 1))) := Lib.hid (by rw [hZ.out, HQ.out, hq]; simp)
          have HC : Hid (mkB z ++ (⟨#[92]⟩ : ByteArray) ++ s.extract k (k + 1) = mkB (z ++ [92] ++ [x])) := Lib.hid (by rw [HX.out, show (⟨#[92]⟩ : ByteArray) = mkB [92] from rfl, mkB_app, mkB_app])
          have z3 : (mkB z ++ (⟨#[92]⟩ : ByteArray)).size = z.length + 1 := by rw [show (⟨#[92]⟩ : ByteArray) = mkB [92] from rfl, mkB_app, mkB_size]; simp
          have z4 : (s.extract k (k + 1)).size = 1 := by rw [HX.out, mkB_size]; rfl
          rcases hq2 with h34 | h92
          · have h34' : (bt s k == 34) = true := by simp [h34]
            clear h10 hq hx hxv hkl h34
            go_wp2
            go_round
            case rel => exact ⟨k + 1, _, hks, by go_num, congrArg Value.string HC.out, by simp; omega, HZ2⟩
            case measure => simp [intOf]; omega
          · have h34' : (bt s k == 34) = false := by simp [h92]
            have h92' : (bt s k == 92) = true := by simp [h92]
            clear h10 hq hx hxv hkl h92
            go_wp2
            go_round
            case rel => exact ⟨k + 1, _, hks, by go_num, congrArg Value.string HC.out, by simp; omega, HZ2⟩
            case measure => simp [intOf]; omega
        · have hq : qB x = [x] := by unfold qB; rw [if_neg (by rw [hxv]; exact h10), if_neg (by rw [hxv]; exact hq2)]
          have HZ2 : Hid (z ++ [x] = 34 :: qL (s.data.toList.take (k + 1))) := Lib.hid (by rw [hZ.out, HQ.out, hq]; simp)
          have HC : Hid (mkB z ++ s.extract k (k + 1) = mkB (z ++ [x])) := Lib.hid (by rw [HX.out, mkB_app])
          have z4 : (s.extract k (k + 1)).size = 1 := by rw [HX.out, mkB_size]; rfl
          have h34' : (bt s k == 34) = false := by simp; omega
          have h92' : (bt s k == 92) = false := by simp; omega
          clear h10 hq2 hq hx hxv hkl
          go_wp2
          go_round
          case rel => exact ⟨k + 1, _, hks, by go_num, congrArg Value.string HC.out, by simp; omega, HZ2⟩
          case measure => simp [intOf]; omega
    · have HZ2 : Hid (z ++ [34] = quoteL s.data.toList) := Lib.hid (by rw [hZ.out, List.take_of_length_le (by simp; omega)]; rfl)
      have HC : Hid (mkB z ++ (⟨#[34]⟩ : ByteArray) = mkB (z ++ [34])) := Lib.hid (by rw [show (⟨#[34]⟩ : ByteArray) = mkB [34] from rfl, mkB_app])
      go_wp2
      go_ret
      exact ⟨ret_s (by rw [HC.out, HZ2.out]), rfl⟩

theorem join_snocP (P : List (List UInt8)) (x : List UInt8) (k : Nat) (h : P.length = k) (hk : 0 < k) : Lib.join P [32] ++ [32] ++ x = Lib.join (P ++ [x]) [32] := by
  cases P with
  | nil => simp at h; omega
  | cons a t =>
    rw [List.cons_append, Lib.join_cons, Lib.join_cons]
    unfold Lib.joinTail; simp
theorem join_snoc0 (P : List (List UInt8)) (x : List UInt8) (k : Nat) (h : P.length = k) (hk : ¬ 0 < k) : Lib.join P [32] ++ x = Lib.join (P ++ [x]) [32] := by
  have : P = [] := List.length_eq_zero_iff.1 (by omega)
  subst this
  rw [List.nil_append, Lib.join_one, Lib.join_nil]; rfl
set_option maxRecDepth 100000 in
set_option maxHeartbeats 8000000 in
theorem refPrint (v : Value) (L : List TT) (w : World) (hS : SLN 5 w v (tokRows L)) (hL : L.length ≤ 1000) (hT : ∀ x ∈ L, x.t.text.length ≤ 1024 ∧ -9223372036854775808 ≤ x.t.num ∧ x.t.num ≤ 9223372036854775807) :
    Calls Tryd.prog 7 #[v] w fun e w' => e = .returned (.string (mkB (Lib.join (partsP L) [32]))) ∧ w = w' := by
  have hrl : (tokRows L).length = L.length := by simp [tokRows]
  obtain ⟨a0, c0, hv0⟩ := hS.len
  rw [hrl] at hv0
  have HS := Lib.hid hS
  have HT := Lib.hid hT
  subst hv0
  clear hS hT
  go_enter Tryd.func7, Tryd.ntmps7
  go_wp2
  go_loop [3, 4] (fun p i => ∃ (k : Nat) (z : List UInt8), i = .int .i64 k ∧ k ≤ L.length ∧ p = .string (mkB z) ∧ z.length ≤ 2051 * k ∧ Hid (z = Lib.join ((L.take k).map fun x => prT x.t) [32]) ∧ Hid (∀ i (hi : i < L.length), i < k → L[i].t.kind ≠ 0)) (fun _ i => L.length - (intOf i).toNat)
  case atStart => exact ⟨0, [], rfl, Nat.zero_le _, rfl, by simp, Lib.hid rfl, Lib.hid (fun i hi h => by omega)⟩
  case round =>
    obtain ⟨k, z, rfl, hk, rfl, hzl, hZ, hK⟩ := hrel
    have hzs := mkB_size z
    by_cases hlt : k < L.length
    · have hr : k < (tokRows L).length := by rw [hrl]; exact hlt
      obtain ⟨b, off, c, hv', hblt, hcell⟩ := HS.out.open (by omega)
      have hac : a0 = some ⟨b, off, none⟩ := by simp at hv'; exact hv'.1
      subst hac
      have hx : (tokRows L)[k] = tokCells L[k] := by simp [tokRows]
      have hkx : ∀ (h : L[k].t.kind ≠ 0), Hid (∀ i (hi : i < L.length), i < k + 1 → L[i].t.kind ≠ 0) := fun h => Lib.hid (fun i hi h2 => by
        by_cases e : i = k
        · subst e; exact h
        · exact hK.out i hi (by omega))
      have hend : ∀ (h : L[k].t.kind = 0), Hid (partsP L = (L.take k).map fun x => prT x.t) := fun h => Lib.hid (take_kind L k hK.out (.inr ⟨hlt, h⟩))
      have HPk : (L.take k).map (fun x => prT x.t) ++ [prT L[k].t] = (L.take (k + 1)).map fun x => prT x.t := by
        rw [List.take_succ_eq_append_getElem hlt, List.map_append]; rfl
      have hTx := HT.out L[k] (List.getElem_mem hlt)
      have Htl : Hid ((prT L[k].t).length ≤ 2050) := Lib.hid (pr_bound _ hTx.1 hTx.2)
      have a0' : ∀ j, j < 5 → w.cell? ⟨b, off + k * 5 + j, none⟩ = (tokCells L[k])[j]? := fun j hj => by
        rw [← hx]; exact hcell k j hr hj
      have e0 := a0' 0 (by decide)
      have e1 := a0' 1 (by decide)
      have e2 := a0' 2 (by decide)
      clear a0'
      generalize L[k] = x at e0 e1 e2 hkx hend HPk hTx Htl
      simp [tokCells] at e0 e1 e2
      have HPk := Lib.hid HPk
      have hPl : ((L.take k).map fun x => prT x.t).length = k := by simp; omega
      obtain ⟨κ, hκ⟩ : ∃ κ, x.t.kind = κ := ⟨_, rfl⟩
      rw [hκ] at e0 hkx hend
      have hpr : prT x.t = if κ = 2 then Lib.itoa x.t.num else if κ = 3 then quoteL x.t.text else if κ = 1 ∨ κ = 4 ∨ κ = 5 then x.t.text else [] := by rw [← hκ]; rfl
      clear hv' hcell hx hκ hr
      by_cases k0 : κ = 0
      · have HE := hend k0
        subst k0
        clear hkx hend hpr
        go_wp2
        go_ret
        exact ⟨ret_s (by rw [HE.out, hZ.out]), rfl⟩
      · have HK2 := hkx k0
        have f0 : (κ == 0) = false := by simpa using k0
        have f0' : (κ != 0) = true := by simpa using k0
        clear hkx hend
        by_cases k1 : κ = 1
        · subst k1
          have Htx : Hid (prT x.t = x.t.text) := Lib.hid (by rw [hpr]; simp)
          clear hpr f0 k0 f0'
          by_cases hk0 : 0 < k
          · have HJ : Hid (z ++ [32] ++ x.t.text = Lib.join ((L.take (k + 1)).map fun x => prT x.t) [32]) := Lib.hid (by rw [hZ.out, ← HPk.out, Htx.out]; exact join_snocP _ _ k hPl hk0)
            have HC : Hid (mkB z ++ (⟨#[32]⟩ : ByteArray) ++ mkB (x.t.text) = mkB (z ++ [32] ++ x.t.text)) := Lib.hid (by rw [show (⟨#[32]⟩ : ByteArray) = mkB [32] from rfl, mkB_app, mkB_app])
            have z3 : (mkB z ++ (⟨#[32]⟩ : ByteArray)).size = z.length + 1 := by rw [show (⟨#[32]⟩ : ByteArray) = mkB [32] from rfl, mkB_app, mkB_size]; simp
            have z4 : (mkB (x.t.text)).size = (x.t.text).length := mkB_size _
            have z5 := Htl.out
            rw [Htx.out] at z5
            go_wp2
            go_round
            case rel => exact ⟨k + 1, _, by go_num, hlt, by first | exact congrArg Value.string HC.out | exact (congrArg Value.string (by rw [← HC.out]; rfl)), by simp; omega, HJ, HK2⟩
            case measure => simp [intOf]; omega
          · have HJ : Hid (z ++ x.t.text = Lib.join ((L.take (k + 1)).map fun x => prT x.t) [32]) := Lib.hid (by rw [hZ.out, ← HPk.out, Htx.out]; exact join_snoc0 _ _ k hPl hk0)
            have HC : Hid (mkB z ++ mkB (x.t.text) = mkB (z ++ x.t.text)) := Lib.hid (by rw [mkB_app])
            have z4 : (mkB (x.t.text)).size = (x.t.text).length := mkB_size _
            have z5 := Htl.out
            rw [Htx.out] at z5
            go_wp2
            go_round
            case rel => exact ⟨k + 1, _, by go_num, hlt, by first | exact congrArg Value.string HC.out | exact (congrArg Value.string (by rw [← HC.out]; rfl)), by simp; omega, HJ, HK2⟩
            case measure => simp [intOf]; omega
        · by_cases k4 : κ = 4
          · subst k4
            have Htx : Hid (prT x.t = x.t.text) := Lib.hid (by rw [hpr]; simp)
            clear hpr f0 k0 k1 f0'
            by_cases hk0 : 0 < k
            · have HJ : Hid (z ++ [32] ++ x.t.text = Lib.join ((L.take (k + 1)).map fun x => prT x.t) [32]) := Lib.hid (by rw [hZ.out, ← HPk.out, Htx.out]; exact join_snocP _ _ k hPl hk0)
              have HC : Hid (mkB z ++ (⟨#[32]⟩ : ByteArray) ++ mkB (x.t.text) = mkB (z ++ [32] ++ x.t.text)) := Lib.hid (by rw [show (⟨#[32]⟩ : ByteArray) = mkB [32] from rfl, mkB_app, mkB_app])
              have z3 : (mkB z ++ (⟨#[32]⟩ : ByteArray)).size = z.length + 1 := by rw [show (⟨#[32]⟩ : ByteArray) = mkB [32] from rfl, mkB_app, mkB_size]; simp
              have z4 : (mkB (x.t.text)).size = (x.t.text).length := mkB_size _
              have z5 := Htl.out
              rw [Htx.out] at z5
              go_wp2
              go_round
              case rel => exact ⟨k + 1, _, by go_num, hlt, by first | exact congrArg Value.string HC.out | exact (congrArg Value.string (by rw [← HC.out]; rfl)), by simp; omega, HJ, HK2⟩
              case measure => simp [intOf]; omega
            · have HJ : Hid (z ++ x.t.text = Lib.join ((L.take (k + 1)).map fun x => prT x.t) [32]) := Lib.hid (by rw [hZ.out, ← HPk.out, Htx.out]; exact join_snoc0 _ _ k hPl hk0)
              have HC : Hid (mkB z ++ mkB (x.t.text) = mkB (z ++ x.t.text)) := Lib.hid (by rw [mkB_app])
              have z4 : (mkB (x.t.text)).size = (x.t.text).length := mkB_size _
              have z5 := Htl.out
              rw [Htx.out] at z5
              go_wp2
              go_round
              case rel => exact ⟨k + 1, _, by go_num, hlt, by first | exact congrArg Value.string HC.out | exact (congrArg Value.string (by rw [← HC.out]; rfl)), by simp; omega, HJ, HK2⟩
              case measure => simp [intOf]; omega
          · by_cases k5 : κ = 5
            · subst k5
              have Htx : Hid (prT x.t = x.t.text) := Lib.hid (by rw [hpr]; simp)
              clear hpr f0 k0 k1 k4 f0'
              by_cases hk0 : 0 < k
              · have HJ : Hid (z ++ [32] ++ x.t.text = Lib.join ((L.take (k + 1)).map fun x => prT x.t) [32]) := Lib.hid (by rw [hZ.out, ← HPk.out, Htx.out]; exact join_snocP _ _ k hPl hk0)
                have HC : Hid (mkB z ++ (⟨#[32]⟩ : ByteArray) ++ mkB (x.t.text) = mkB (z ++ [32] ++ x.t.text)) := Lib.hid (by rw [show (⟨#[32]⟩ : ByteArray) = mkB [32] from rfl, mkB_app, mkB_app])
                have z3 : (mkB z ++ (⟨#[32]⟩ : ByteArray)).size = z.length + 1 := by rw [show (⟨#[32]⟩ : ByteArray) = mkB [32] from rfl, mkB_app, mkB_size]; simp
                have z4 : (mkB (x.t.text)).size = (x.t.text).length := mkB_size _
                have z5 := Htl.out
                rw [Htx.out] at z5
                go_wp2
                go_round
                case rel => exact ⟨k + 1, _, by go_num, hlt, by first | exact congrArg Value.string HC.out | exact (congrArg Value.string (by rw [← HC.out]; rfl)), by simp; omega, HJ, HK2⟩
                case measure => simp [intOf]; omega
              · have HJ : Hid (z ++ x.t.text = Lib.join ((L.take (k + 1)).map fun x => prT x.t) [32]) := Lib.hid (by rw [hZ.out, ← HPk.out, Htx.out]; exact join_snoc0 _ _ k hPl hk0)
                have HC : Hid (mkB z ++ mkB (x.t.text) = mkB (z ++ x.t.text)) := Lib.hid (by rw [mkB_app])
                have z4 : (mkB (x.t.text)).size = (x.t.text).length := mkB_size _
                have z5 := Htl.out
                rw [Htx.out] at z5
                go_wp2
                go_round
                case rel => exact ⟨k + 1, _, by go_num, hlt, by first | exact congrArg Value.string HC.out | exact (congrArg Value.string (by rw [← HC.out]; rfl)), by simp; omega, HJ, HK2⟩
                case measure => simp [intOf]; omega
            · by_cases k2 : κ = 2
              · subst k2
                have Htx : Hid (prT x.t = Lib.itoa x.t.num) := Lib.hid (by rw [hpr]; simp)
                have HN : Hid (∀ w, Calls Tryd.prog 14 #[.int .i64 x.t.num] w fun e w' => e = .returned (.string (mkB (Lib.itoa x.t.num))) ∧ w = w') := Lib.hid (fun w => refText x.t.num w hTx.2.1 hTx.2.2)
                clear hpr f0 k0 k1 k4 k5 f0'
                by_cases hk0 : 0 < k
                · have HJ : Hid (z ++ [32] ++ Lib.itoa x.t.num = Lib.join ((L.take (k + 1)).map fun x => prT x.t) [32]) := Lib.hid (by rw [hZ.out, ← HPk.out, Htx.out]; exact join_snocP _ _ k hPl hk0)
                  have HC : Hid (mkB z ++ (⟨#[32]⟩ : ByteArray) ++ mkB (Lib.itoa x.t.num) = mkB (z ++ [32] ++ Lib.itoa x.t.num)) := Lib.hid (by rw [show (⟨#[32]⟩ : ByteArray) = mkB [32] from rfl, mkB_app, mkB_app])
                  have z3 : (mkB z ++ (⟨#[32]⟩ : ByteArray)).size = z.length + 1 := by rw [show (⟨#[32]⟩ : ByteArray) = mkB [32] from rfl, mkB_app, mkB_size]; simp
                  have z4 : (mkB (Lib.itoa x.t.num)).size = (Lib.itoa x.t.num).length := mkB_size _
                  have z5 := Htl.out
                  rw [Htx.out] at z5
                  go_wp2_with (go_at_call 14; refine (HN.out _).mono ?_; rintro e w4 ⟨rfl, rfl⟩)
                  go_round
                  case rel => exact ⟨k + 1, _, by go_num, hlt, by first | exact congrArg Value.string HC.out | exact (congrArg Value.string (by rw [← HC.out]; rfl)), by simp; omega, HJ, HK2⟩
                  case measure => simp [intOf]; omega
                · have HJ : Hid (z ++ Lib.itoa x.t.num = Lib.join ((L.take (k + 1)).map fun x => prT x.t) [32]) := Lib.hid (by rw [hZ.out, ← HPk.out, Htx.out]; exact join_snoc0 _ _ k hPl hk0)
                  have HC : Hid (mkB z ++ mkB (Lib.itoa x.t.num) = mkB (z ++ Lib.itoa x.t.num)) := Lib.hid (by rw [mkB_app])
                  have z4 : (mkB (Lib.itoa x.t.num)).size = (Lib.itoa x.t.num).length := mkB_size _
                  have z5 := Htl.out
                  rw [Htx.out] at z5
                  go_wp2_with (go_at_call 14; refine (HN.out _).mono ?_; rintro e w4 ⟨rfl, rfl⟩)
                  go_round
                  case rel => exact ⟨k + 1, _, by go_num, hlt, by first | exact congrArg Value.string HC.out | exact (congrArg Value.string (by rw [← HC.out]; rfl)), by simp; omega, HJ, HK2⟩
                  case measure => simp [intOf]; omega
              · by_cases k3 : κ = 3
                · subst k3
                  have Htx : Hid (prT x.t = quoteL x.t.text) := Lib.hid (by rw [hpr]; simp)
                  have HQ : Hid (∀ w, Calls Tryd.prog 9 #[.string (mkB x.t.text)] w fun e w' => e = .returned (.string (mkB (quoteL x.t.text))) ∧ w = w') := Lib.hid (fun w => refQuote (mkB x.t.text) w (by rw [mkB_size]; omega))
                  clear hpr f0 k0 k1 k4 k5 k2 f0'
                  by_cases hk0 : 0 < k
                  · have HJ : Hid (z ++ [32] ++ quoteL x.t.text = Lib.join ((L.take (k + 1)).map fun x => prT x.t) [32]) := Lib.hid (by rw [hZ.out, ← HPk.out, Htx.out]; exact join_snocP _ _ k hPl hk0)
                    have HC : Hid (mkB z ++ (⟨#[32]⟩ : ByteArray) ++ mkB (quoteL x.t.text) = mkB (z ++ [32] ++ quoteL x.t.text)) := Lib.hid (by rw [show (⟨#[32]⟩ : ByteArray) = mkB [32] from rfl, mkB_app, mkB_app])
                    have z3 : (mkB z ++ (⟨#[32]⟩ : ByteArray)).size = z.length + 1 := by rw [show (⟨#[32]⟩ : ByteArray) = mkB [32] from rfl, mkB_app, mkB_size]; simp
                    have z4 : (mkB (quoteL x.t.text)).size = (quoteL x.t.text).length := mkB_size _
                    have z5 := Htl.out
                    rw [Htx.out] at z5
                    go_wp2_with (go_at_call 9; refine (HQ.out _).mono ?_; rintro e w4 ⟨rfl, rfl⟩)
                    go_round
                    case rel => exact ⟨k + 1, _, by go_num, hlt, by first | exact congrArg Value.string HC.out | exact (congrArg Value.string (by rw [← HC.out]; rfl)), by simp; omega, HJ, HK2⟩
                    case measure => simp [intOf]; omega
                  · have HJ : Hid (z ++ quoteL x.t.text = Lib.join ((L.take (k + 1)).map fun x => prT x.t) [32]) := Lib.hid (by rw [hZ.out, ← HPk.out, Htx.out]; exact join_snoc0 _ _ k hPl hk0)
                    have HC : Hid (mkB z ++ mkB (quoteL x.t.text) = mkB (z ++ quoteL x.t.text)) := Lib.hid (by rw [mkB_app])
                    have z4 : (mkB (quoteL x.t.text)).size = (quoteL x.t.text).length := mkB_size _
                    have z5 := Htl.out
                    rw [Htx.out] at z5
                    go_wp2_with (go_at_call 9; refine (HQ.out _).mono ?_; rintro e w4 ⟨rfl, rfl⟩)
                    go_round
                    case rel => exact ⟨k + 1, _, by go_num, hlt, by first | exact congrArg Value.string HC.out | exact (congrArg Value.string (by rw [← HC.out]; rfl)), by simp; omega, HJ, HK2⟩
                    case measure => simp [intOf]; omega
                · have Htx : Hid (prT x.t = []) := Lib.hid (by rw [hpr]; simp [k1, k2, k3, k4, k5])
                  have f1 : (κ == 1) = false := by simpa using k1
                  have f2 : (κ == 2) = false := by simpa using k2
                  have f3 : (κ == 3) = false := by simpa using k3
                  have f4 : (κ == 4) = false := by simpa using k4
                  have f5 : (κ == 5) = false := by simpa using k5
                  clear hpr k0 k1 k2 k3 k4 k5
                  by_cases hk0 : 0 < k
                  · have HJ : Hid (z ++ [32] = Lib.join ((L.take (k + 1)).map fun x => prT x.t) [32]) := Lib.hid (by
                      have := join_snocP _ [] k hPl hk0
                      rw [hZ.out, ← HPk.out, Htx.out, ← this, List.append_nil])
                    have HC : Hid (mkB z ++ (⟨#[32]⟩ : ByteArray) = mkB (z ++ [32])) := Lib.hid (by rw [show (⟨#[32]⟩ : ByteArray) = mkB [32] from rfl, mkB_app])
                    go_wp2
                    go_round
                    case rel => exact ⟨k + 1, _, by go_num, hlt, congrArg Value.string HC.out, by simp; omega, HJ, HK2⟩
                    case measure => simp [intOf]; omega
                  · have HJ : Hid (z = Lib.join ((L.take (k + 1)).map fun x => prT x.t) [32]) := Lib.hid (by
                      have := join_snoc0 _ [] k hPl hk0
                      rw [← HPk.out, Htx.out, ← this, List.append_nil, hZ.out])
                    go_wp2
                    go_round
                    case rel => exact ⟨k + 1, z, by go_num, hlt, rfl, by omega, HJ, HK2⟩
                    case measure => simp [intOf]; omega
    · have HE := Lib.hid (take_kind L k hK.out (.inl (by omega)))
      go_wp2
      go_ret
      exact ⟨ret_s (by rw [HE.out, hZ.out]), rfl⟩
end Go.Proofs.YtmelilppeikdiaaDoor
