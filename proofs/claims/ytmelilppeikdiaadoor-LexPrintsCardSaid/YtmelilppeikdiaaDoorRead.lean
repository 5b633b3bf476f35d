/- The reader of package lex: what its block holds; its small methods. -/
import Derived.Test.YtmelilppeikdiaaDoorLexPlain
import Derived.BigQuiet
import Derived.Deep.QuietTactic
namespace Go.Proofs.YtmelilppeikdiaaDoor
open Go.RowKit Go.PlainAid

theorem lexRow (c : Int) (w : World) : Calls Tryd.prog 40 #[.int .u8 c] w fun e w' => e = .returned (.bool (cName c)) ∧ w = w' := by
  have hd : ∀ w : World, Calls Tryd.prog 32 #[.int .u8 c] w fun e w' => e = .returned (.bool (digitB c)) ∧ w = w' := by
    intro w
    go_enter Tryd.func32, Tryd.ntmps32
    go_wp2
    all_goals
      go_ret
      exact ⟨ret_b (by simp [digitB]; try omega), rfl⟩
  go_enter Tryd.func40, Tryd.ntmps40
  go_wp2_with (go_at_call 32; refine (hd _).mono ?_; rintro e w' ⟨rfl, rfl⟩)
  all_goals
    go_ret
    exact ⟨ret_b (by rw [Bool.eq_iff_iff]; simp [cName, smallB] at *; try simp [*] at *; try omega), rfl⟩
theorem lexDigit (c : Int) (w : World) : Calls Tryd.prog 32 #[.int .u8 c] w fun e w' => e = .returned (.bool (digitB c)) ∧ w = w' := by
  go_enter Tryd.func32, Tryd.ntmps32
  go_wp2
  all_goals
    go_ret
    exact ⟨ret_b (by simp [digitB]; try omega), rfl⟩
theorem lexSaid (c : Int) (w : World) : Calls Tryd.prog 29 #[.int .u8 c] w fun e w' => e = .returned (.bool (cSaid c)) ∧ w = w' := by
  go_enter Tryd.func29, Tryd.ntmps29
  go_wp2
  all_goals
    go_ret
    exact ⟨ret_b (by simp [cSaid]; try omega), rfl⟩
theorem lexBlank (c : Int) (w : World) : Calls Tryd.prog 26 #[.int .u8 c] w fun e w' => e = .returned (.bool (cBlank c)) ∧ w = w' := by
  go_enter Tryd.func26, Tryd.ntmps26
  go_wp2
  all_goals
    go_ret
    exact ⟨ret_b (by rw [Bool.eq_iff_iff]; simp [cBlank]; try omega), rfl⟩
theorem lexMark (c : Int) (w : World) : Calls Tryd.prog 28 #[.int .u8 c] w fun e w' => e = .returned (.bool (cMark c)) ∧ w = w' := by
  cases h : cSaid c
  all_goals
    have H := Lib.hid h
    clear h
    go_enter Tryd.func28, Tryd.ntmps28
    go_wp2_with (go_at_call 29; refine (lexSaid _ _).mono ?_; rintro e w' ⟨rfl, rfl⟩; rw [H.out])
    all_goals
      go_ret
      exact ⟨ret_b (by rw [Bool.eq_iff_iff]; simp [cMark, H.out]; try omega), rfl⟩

/-- The reader's block: the source s, the place i with its line and column, and what is wrong. -/
structure RD (w : World) (R : Nat) (s : ByteArray) (i : Nat) (e fl fc : Int) : Prop where
  blk : R < w.heap.size
  le : i ≤ s.size
  lim : s.size ≤ 1000000
  c0 : w.cell? ⟨R, 0, none⟩ = some (.string s)
  c1 : w.cell? ⟨R, 1, none⟩ = some (.int .i64 i)
  c2 : w.cell? ⟨R, 2, none⟩ = some (.int .i64 (ln s i))
  c3 : w.cell? ⟨R, 3, none⟩ = some (.int .i64 (cl s i))
  c4 : w.cell? ⟨R, 4, none⟩ = some (.int .i64 e)
  c5 : w.cell? ⟨R, 5, none⟩ = some (.int .i64 fl)
  c6 : w.cell? ⟨R, 6, none⟩ = some (.int .i64 fc)
  z1 : w.frozen? ⟨R, 1, none⟩ = false
  z2 : w.frozen? ⟨R, 2, none⟩ = false
  z3 : w.frozen? ⟨R, 3, none⟩ = false
  z4 : w.frozen? ⟨R, 4, none⟩ = false
  z5 : w.frozen? ⟨R, 5, none⟩ = false
  z6 : w.frozen? ⟨R, 6, none⟩ = false

theorem RD.drewN {w : World} {R : Nat} {s : ByteArray} {i : Nat} {e fl fc : Int} (h : RD w R s i e fl fc) (n : Nat) : RD (w.drewN n) R s i e fl fc := ⟨h.blk, h.le, h.lim, h.c0, h.c1, h.c2, h.c3, h.c4, h.c5, h.c6, h.z1, h.z2, h.z3, h.z4, h.z5, h.z6⟩
theorem RD.below {w w' : World} {R : Nat} {s : ByteArray} {i : Nat} {e fl fc : Int} (h : RD w R s i e fl fc) (hb : Below w.heap.size w w') : RD w' R s i e fl fc := by
  have hc : ∀ o, w'.cell? ⟨R, o, none⟩ = w.cell? ⟨R, o, none⟩ := fun o => hb.cell (p := ⟨R, o, none⟩) h.blk
  have hz : ∀ o, w'.frozen? ⟨R, o, none⟩ = w.frozen? ⟨R, o, none⟩ := fun o => hb.frozen (p := ⟨R, o, none⟩) h.blk
  exact ⟨Nat.lt_of_lt_of_le h.blk hb.size, h.le, h.lim, by rw [hc]; exact h.c0, by rw [hc]; exact h.c1, by rw [hc]; exact h.c2, by rw [hc]; exact h.c3, by rw [hc]; exact h.c4, by rw [hc]; exact h.c5, by rw [hc]; exact h.c6, by rw [hz]; exact h.z1, by rw [hz]; exact h.z2, by rw [hz]; exact h.z3, by rw [hz]; exact h.z4, by rw [hz]; exact h.z5, by rw [hz]; exact h.z6⟩

theorem some_set {w : World} {a b : Addr} {v : Value} (h : (w.cell? b).isSome = true) : ((w.setCell a v).cell? b).isSome = true := by
  obtain ⟨u, hu⟩ := Option.isSome_iff_exists.1 h
  obtain ⟨u', hu'⟩ := cell?_setCell_some (p := a) (x := v) hu
  rw [hu']; rfl
theorem quiet_eq {P : Program} {f : FuncId} {args : Array Value} {w : World} {n : Nat} {v : Value}
    (h : Calls P f args (w.drewN n) fun e w' => e = .returned v ∧ w.drewN n = w') : Calls P f args (w.drewN n) fun e w'' => e = .returned v ∧ ∃ m, w'' = w.drewN m :=
  h.mono fun _ _ ⟨he, hm⟩ => ⟨he, n, hm.symm⟩
theorem gb_refl (w : World) (r : Option Nat) : w.grownBy w r := ⟨rfl, rfl, rfl, Nat.le_refl _, fun _ _ _ => rfl⟩
theorem gb_trans {a b c : World} {r : Option Nat} (h : a.grownBy b r) (k : b.grownBy c r) : a.grownBy c r :=
  ⟨k.os.trans h.os, k.tape.trans h.tape, k.output.trans h.output, Nat.le_trans h.size k.size, fun i hi hn => (k.block i (Nat.lt_of_lt_of_le hi h.size) hn).trans (h.block i hi hn)⟩
theorem gb_drewN {a b : World} {r : Option Nat} (h : a.grownBy b r) (n : Nat) : a.grownBy (b.drewN n) r := ⟨h.os, h.tape, h.output, h.size, h.block⟩
theorem gb_set {a b : World} {R : Nat} (h : a.grownBy b (some R)) (o : Nat) (u : Value) : a.grownBy (b.setCell ⟨R, o, none⟩ u) (some R) :=
  gb_trans h ⟨rfl, rfl, rfl, by simp [World.setCell], fun k _ hn => Below.heap_setCell _ _ _ _ (fun e => hn (by rw [e]))⟩
theorem gb_below {a b c : World} {r : Option Nat} (h : a.grownBy b r) (k : Below b.heap.size b c) : a.grownBy c r :=
  gb_trans h ⟨k.os, k.tape, k.output, k.size, fun i hi _ => k.block i hi⟩

theorem lexPeek (R n : Nat) (s : ByteArray) (i : Nat) (e fl fc : Int) (w : World) (h : RD w R s i e fl fc) (hn : n ≤ 10) :
    Calls Tryd.prog 27 #[.pointer (some ⟨R, 0, none⟩), .int .i64 n] w fun e w' => e = .returned (.int .u8 (bt s (i + n))) ∧ ∃ m, w' = w.drewN m := by
  have h0 := h.c0
  have h1 := h.c1
  have hle := h.le
  have hlim := h.lim
  have hb := get_bt s
  clear h
  by_cases hlt : i + n < s.size
  · go_enter Tryd.func27, Tryd.ntmps27
    go_wp2_with fail
    go_quiet (fail)
    go_wp2_with fail
    go_quiet (fail)
    go_wp2
    go_ret
    exact ⟨rfl, _, World.drewN_drewN _ _ _⟩
  · have hE := Lib.hid (bt_end s (k := i + n) (by omega))
    go_enter Tryd.func27, Tryd.ntmps27
    go_wp2_with fail
    go_quiet (fail)
    go_wp2
    go_ret
    exact ⟨ret_i hE.out.symm, _, rfl⟩

theorem lexStep (R : Nat) (s : ByteArray) (i : Nat) (e fl fc : Int) (w : World) (h : RD w R s i e fl fc) (hlt : i < s.size) :
    Calls Tryd.prog 39 #[.pointer (some ⟨R, 0, none⟩)] w fun e' w' => e' = .returned (.tuple #[]) ∧ RD w' R s (i + 1) e fl fc ∧ w.grownBy w' (some R) := by
  obtain ⟨hblk, hle, hlim, h0, h1, h2, h3, h4, h5, h6, z1, z2, z3, z4, z5, z6⟩ := h
  have hb := get_bt s
  have hl := ln_bd s i
  have hc := cl_bd s i
  by_cases h10 : bt s i = 10
  · have hL := Lib.hid (show ln s (i + 1) = ln s i + 1 by rw [ln, if_pos h10])
    have hC := Lib.hid (show cl s (i + 1) = 1 by rw [cl, if_pos h10])
    have h10' : (bt s i == 10) = true := by simp [h10]
    clear h10
    go_enter Tryd.func39, Tryd.ntmps39
    go_wp2_with fail
    go_quiet (fail)
    go_wp2
    go_end0
    refine ⟨rfl, ⟨?_, hlt, hlim, ?_, ?_, ?_, ?_, ?_, ?_, ?_, ?_, ?_, ?_, ?_, ?_, ?_⟩, ?_⟩
    all_goals try (go_simp; done)
    · go_simp; rw [hL.out]
    · rw [hC.out]
      exact World.cell?_setCell_same' _ _ _ (some_set (some_set (some_set (by show (w.cell? ⟨R, 3, none⟩).isSome = true; rw [h3]; rfl))))
    · exact gb_set (gb_set (gb_set (gb_set (gb_drewN (gb_refl _ _) _) _ _) _ _) _ _) _ _
  · have hL := Lib.hid (show ln s (i + 1) = ln s i by rw [ln, if_neg h10])
    have hC := Lib.hid (show cl s (i + 1) = cl s i + 1 by rw [cl, if_neg h10])
    have h10' : (bt s i == 10) = false := by simp [h10]
    clear h10
    go_enter Tryd.func39, Tryd.ntmps39
    go_wp2_with fail
    go_quiet (fail)
    go_wp2
    go_end0
    refine ⟨rfl, ⟨?_, hlt, hlim, ?_, ?_, ?_, ?_, ?_, ?_, ?_, ?_, ?_, ?_, ?_, ?_, ?_⟩, ?_⟩
    all_goals try (go_simp; done)
    · go_simp; rw [hL.out]
    · go_simp; rw [hC.out]
    · exact gb_set (gb_set (gb_drewN (gb_refl _ _) _) _ _) _ _
end Go.Proofs.YtmelilppeikdiaaDoor
