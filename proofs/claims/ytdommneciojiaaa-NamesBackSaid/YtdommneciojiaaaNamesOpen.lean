/- What the laws of package names are handed: declarations, names. -/
import Derived.Test.YtdommneciojiaaaNamesLaws
import Derived.Test.YtdommneciojiaaaReach
import Derived.WideShapes
namespace Go.Proofs.Ytdommneciojiaaa
open Go.RowKit Go.PlainAid Go.ChangeShapes Go.WideShapes
set_option linter.unusedVariables false
set_option linter.unusedSimpArgs false

theorem maxlen_some (w : World) (h : w.ShapedOpen Try.prog) : ∃ m, w.cell? ⟨0, 0, none⟩ = some (.int .i64 m) := Try.laysM144.s1_3 w h
theorem opens_nm : Opens Try.prog 46 Cd.nm := fun enc w base spare held fuel cs d h => by
  obtain ⟨h1, h2⟩ := opens_fields Try.underlying46 (by kernel_rfl) (by kernel_rfl) h
  obtain ⟨c0, c1, c2, rfl⟩ : ∃ c0 c1 c2, cs = [c0, c1, c2] := by
    match cs, h1 with
    | [c0, c1, c2], _ => exact ⟨_, _, _, rfl⟩
  obtain ⟨x0, y0⟩ := opens_one (c := Cd.str) 0 _ h2 rfl (by simp) (opens_str Try.underlying9)
  obtain ⟨x1, y1⟩ := opens_one (c := Cd.int .i64) 1 _ h2 rfl (by simp) (opens_int Try.underlying3)
  obtain ⟨x2, y2⟩ := opens_one (c := Cd.int .i64) 2 _ h2 rfl (by simp) (opens_int Try.underlying3)
  refine ⟨⟨x0, x1, x2⟩, ?_, y0.2, y1.2, y2.2⟩
  have e0 := y0.1
  have e1 := y1.1
  have e2 := y2.1
  simp at e0 e1 e2
  rw [e0, e1, e2]; rfl
theorem opens_nms : Opens Try.prog 27 Cd.nm.seq := opens_seq Try.underlying27 (by kernel_rfl) (by decide) opens_nm
theorem opens_strs : Opens Try.prog 22 Cd.str.seq := opens_seq Try.underlying22 (by kernel_rfl) (by decide) (opens_str Try.underlying9)
theorem array7 {α : Type} {cs : Array α} (h : cs.size = 7) : ∃ c0 c1 c2 c3 c4 c5 c6, cs = #[c0, c1, c2, c3, c4, c5, c6] := by
  obtain ⟨l⟩ := cs
  match l, h with
  | [c0, c1, c2, c3, c4, c5, c6], _ => exact ⟨c0, c1, c2, c3, c4, c5, c6, rfl⟩
theorem cells_decl : Try.prog.cellsOf 24 = 7 := by kernel_rfl
theorem bytes_str : Try.prog.bytesOf 9 = 16 := by kernel_rfl
set_option maxRecDepth 100000 in
theorem decl_open {H : Type} {enc : TypeId × Value → H} {w : World} {r : Reach} {b0 base : Nat} {spare : Nat → Bool} {held : Bool} {v : Value} {d : DataW H} {p : List MemPlace} (hv : Value.okWide Try.prog w r b0 24 v)
    (h : DataW.Trod enc Try.prog w base spare held 24 v d p) (hn : Near Try.prog 24 d) :
    ∃ (q1 q2 q3 q4 q5 q6 q7 : Value) (dc : DC), v = declV q1 q2 q3 q4 q5 q6 q7 ∧ DeclIs w q1 q2 q3 q4 q5 q6 q7 dc ∧ cntD dc ≤ 9000000000000000 := by
  obtain ⟨cs, rfl, hsz⟩ := okWide_struct Try.underlying24 hv
  obtain ⟨c0, c1, c2, c3, c4, c5, c6, rfl⟩ := array7 (hsz.trans cells_decl)
  obtain ⟨fuel, hf⟩ := h
  obtain ⟨h1, h2⟩ := near_fields Try.underlying24 (by kernel_rfl) (by kernel_rfl) hf hn
  obtain ⟨x0, r0, z0⟩ := near_one (c := Cd.str) 0 _ h2 rfl (by simp [Value.cells]) Try.underlying22 opens_strs
  obtain ⟨x1, r1, z1⟩ := near_one (c := Cd.str) 1 _ h2 rfl (by simp [Value.cells]) Try.underlying22 opens_strs
  obtain ⟨x2, r2, z2⟩ := near_one (c := Cd.str) 2 _ h2 rfl (by simp [Value.cells]) Try.underlying22 opens_strs
  obtain ⟨x3, r3, z3⟩ := near_one (c := Cd.str) 3 _ h2 rfl (by simp [Value.cells]) Try.underlying22 opens_strs
  obtain ⟨x4, r4, z4⟩ := near_one (c := Cd.str) 4 _ h2 rfl (by simp [Value.cells]) Try.underlying22 opens_strs
  obtain ⟨x5, r5, z5⟩ := near_one (c := Cd.str) 5 _ h2 rfl (by simp [Value.cells]) Try.underlying22 opens_strs
  obtain ⟨x6, r6, z6⟩ := near_one (c := Cd.str) 6 _ h2 rfl (by simp [Value.cells]) Try.underlying22 opens_strs
  rw [bytes_str] at z0 z1 z2 z3 z4 z5 z6
  unfold reachBytes at z0 z1 z2 z3 z4 z5 z6
  exact ⟨c0, c1, c2, c3, c4, c5, c6, ⟨x0, x1, x2, x3, x4, x5, x6⟩, rfl, ⟨r0, r1, r2, r3, r4, r5, r6⟩, by unfold cntD; simp only; omega⟩
end Go.Proofs.Ytdommneciojiaaa
