/- Contract of clewref09.fail. -/
import Derived.Test.YtmelilppeikdiaaRefRow
import Derived.Laws.ResultCell
namespace Go.Proofs.Ytmelilppeikdiaa
open Go.RowKit Go.PlainAid

theorem results_cell1 {fn : Func} {p : Tmp} {ty : TypeId} (h : fn.results = #[.cell p ty]) (tmps : Array Value) (P : Program) (w : World) :
    (results fn tmps).run P w = ((asAddr (tmps.getD p undef)).run P w).andThen fun a w₁ => (loadVar ty a).run P w₁ := by
  simp only [results, h]
  simp [Sem.run_bind, Result.andThen]

theorem refFail (s : ByteArray) (i : Nat) (e : Int) (w : World) (hi : i ≤ s.size) (hs : s.size ≤ 1000000) : Calls Try.prog 25 #[.string s, .int .i64 i, .int .i64 e] w fun e' w' => e' = .returned (.agg #[.int .i64 e, .int .i64 (ln s i), .int .i64 (cl s i)]) ∧ Below w.heap.size w w' := by
  go_enter Try.func25, Try.ntmps25
  go_wp2_with (go_at_call 26; refine (refAt s i _ hi hs).mono ?_; rintro e w' ⟨rfl, rfl⟩)
  (try simp only [Exit.inBlock, Exit.then])
  refine bodyPost_ret (v := .agg #[.int .i64 e, .int .i64 (ln s i), .int .i64 (cl s i)]) ?_ rfl ⟨rfl, ?_⟩
  · rw [results_cell1 rfl]; go_simp
  · go_grown
end Go.Proofs.Ytmelilppeikdiaa
