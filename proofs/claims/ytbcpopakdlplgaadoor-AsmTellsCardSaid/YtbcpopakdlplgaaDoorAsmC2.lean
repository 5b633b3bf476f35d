/- Contract of op.Name. -/
import Derived.Test.YtbcpopakdlplgaaDoorAsmB
import Derived.Test.YtbcpopakdlplgaaDoorAsmNames
import Derived.Test.YtbcpopakdlplgaaDoorBytes
import Derived.LoopTactic
import Derived.Outline
import Derived.Laws.Tables
import Derived.Laws.Rows
import Derived.Deep.WholeRow
namespace Go.Proofs.YtbcpopakdlplgaaDoor
open Go.RowKit Go.PlainAid
set_option linter.unusedVariables false
set_option linter.unusedSimpArgs false

def tabV : Value := .agg ((nameTab.map fun l => Value.string (mkB l)).toArray)
theorem tab_size : (Tryd.prog.info? 67).map (·.size) = some 39 := by kernel_rfl
theorem names_store (w : World) (old cells : Array Value) (ho : old.size = 39) (hc : cells.size = 39) (h1 : cells.all (·.oneCell') = true) {ops : Array Oper} {rest : List Oper} {a : Act} {Q : Exit → Act → World → Prop} {o : Oper} (hgd : o.guard = none) (x y : Operand) (hop : o.op = .store 67 x y)
    (hx : a.eval x = .pointer (some ⟨w.heap.size, 0, none⟩)) (hy : a.eval y = .agg cells) (h : wpList Tryd.prog ops Q rest (a.put o.dst undef) (w.alloc (.cells cells 67))) : wpList Tryd.prog ops Q (o :: rest) a (w.alloc (.cells old 67)) :=
  wpList_store_row hgd _ x y hop w.heap.size cells hx hy _ old (heap_alloc_new w _) (by rw [tab_size, hc]) (by rw [ho, hc]) h1 (by rw [World.setRow_alloc_new]; exact h)
set_option maxRecDepth 100000 in
set_option maxHeartbeats 1000000 in
theorem namesC (w : World) : Calls Tryd.prog 57 #[] w fun e w' => e = .returned tabV ∧ Below w.heap.size w w' := by
  go_enter Tryd.func57, Tryd.ntmps57
  go_wp2_with (refine names_store w _ _ ?h1 ?h2 ?h3 (o := ⟨none, .store _ _ _, _, _, _, none⟩) rfl _ _ rfl rfl rfl ?_)
  case h1 => kernel_rfl
  case h2 => kernel_rfl
  case h3 => kernel_rfl
  exact bodyPost_ret (v := tabV) (results_cell_row rfl _ _ w.heap.size _ _ (0, 0) _ rfl (heap_alloc_new w _) Tryd.underlying67 rfl tab_size) rfl ⟨rfl, (Below.refl _ _).alloc (Nat.le_refl _) _⟩
theorem knownY (n : Int) (w : World) (h1 : 1 ≤ n) (h2 : n ≤ 38) : Calls Tryd.prog 48 #[.int .i64 n] w fun e w' => e = .returned (.bool true) ∧ w = w' :=
  (knownC n w).mono fun e w' ⟨h, k⟩ => ⟨by rw [h]; exact ret_b (by simp [h1, h2]), k⟩
theorem knownN (n : Int) (w : World) (h : ¬ (1 ≤ n ∧ n ≤ 38)) : Calls Tryd.prog 48 #[.int .i64 n] w fun e w' => e = .returned (.bool false) ∧ w = w' :=
  (knownC n w).mono fun e w' ⟨k, q⟩ => ⟨by rw [k]; exact ret_b (by simp; omega), q⟩
theorem tab_at (op : Int) (h1 : 1 ≤ op) (h2 : op ≤ 38) (w : World) : (Instr.index 67 tabV (.int .i64 op)).run Tryd.prog w = .ok (.string (mkB (nmA op))) w := by
  obtain h | h | h | h | h | h | h | h | h | h | h | h | h | h | h | h | h | h | h | h | h | h | h | h | h | h | h | h | h | h | h | h | h | h | h | h | h | h : op = 1 ∨ op = 2 ∨ op = 3 ∨ op = 4 ∨ op = 5 ∨ op = 6 ∨ op = 7 ∨ op = 8 ∨ op = 9 ∨ op = 10 ∨ op = 11 ∨ op = 12 ∨ op = 13 ∨ op = 14 ∨ op = 15 ∨ op = 16 ∨ op = 17 ∨ op = 18 ∨ op = 19 ∨ op = 20 ∨ op = 21 ∨ op = 22 ∨ op = 23 ∨ op = 24 ∨ op = 25 ∨ op = 26 ∨ op = 27 ∨ op = 28 ∨ op = 29 ∨ op = 30 ∨ op = 31 ∨ op = 32 ∨ op = 33 ∨ op = 34 ∨ op = 35 ∨ op = 36 ∨ op = 37 ∨ op = 38 := by omega
  all_goals (subst h; kernel_rfl)
set_option maxRecDepth 100000 in
theorem nameC (op : Int) (w : World) : Calls Tryd.prog 41 #[.int .i64 op] w fun e w' => e = .returned (.string (mkB (nmA op))) ∧ Below w.heap.size w w' := by
  by_cases h : 1 ≤ op ∧ op ≤ 38
  · obtain ⟨h1, h2⟩ := h
    have HX := Lib.hid (fun w => tab_at op h1 h2 w)
    obtain ⟨T, hT⟩ : ∃ T, tabV = T := ⟨_, rfl⟩
    have HN := Lib.hid (fun w => namesC w)
    rw [hT] at HX HN
    go_enter Tryd.func41, Tryd.ntmps41
    go_wp2_with fail
    refine (knownY op _ h1 h2).mono ?_
    rintro e w' ⟨rfl, rfl⟩
    go_wp2_with fail
    refine (HN.out _).mono ?_
    rintro e w1 ⟨rfl, hb⟩
    have hx := HX.out w1
    go_wp2_with fail
    go_ret
    exact ⟨rfl, hb⟩
  · have h0 : nmA op = [] := (nmA_nil op).2 h
    go_enter Tryd.func41, Tryd.ntmps41
    go_wp2_with fail
    refine (knownN op _ h).mono ?_
    rintro e w' ⟨rfl, rfl⟩
    go_wp2_with fail
    go_ret
    exact ⟨ret_s (by rw [h0]; rfl), Below.refl _ _⟩
end Go.Proofs.YtbcpopakdlplgaaDoor
