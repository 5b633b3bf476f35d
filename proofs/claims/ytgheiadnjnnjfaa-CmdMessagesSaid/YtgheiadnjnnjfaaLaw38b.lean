/- The walk of the law CmdMessages: it answers true. -/
import Derived.Test.YtgheiadnjnnjfaaAwake38
import Derived.Test.YtgheiadnjnnjfaaFew
import Derived.Deep.RegionHeld3
namespace Go.Proofs.Ytgheiadnjnnjfaa
open Go.RowKit Go.PlainAid

set_option maxHeartbeats 800000 in
theorem walkMessages (va : Value) (l : List ByteArray) (c : Value) (er at_ : Int) (w : World) (ha : SL w va (l.map Value.string)) (hz : ∀ x ∈ l, x.size ≤ maxLen) :
    Calls Try.prog 4 #[va, .agg #[c, .int .i64 er, .int .i64 at_]] w fun e w' => e = .returned (.bool true) ∧ Below w.heap.size w w' := by
  have HA := Lib.hid ha
  have HZ := Lib.hid hz
  clear ha hz
  go_enter Try.func4, Try.ntmps4
  go_wp2_with fail
  refine (few_any va l 100 2000 _ (HA.out.below (one_alloc _ _)) HZ.out (by decide) (by decide) (by decide) (by decide)).mono ?_
  rintro e w' ⟨b, rfl, hb, rfl⟩
  cases b with
  | false =>
    go_wp2_with (go_at_call 6; refine (awake38 _).mono ?_; rintro e w1 ⟨rfl, hb1⟩)
    go_ret
    exact ⟨rfl, (one_alloc _ _).trans (hb1.mono (by rw [World.size_alloc]; omega))⟩
  | true =>
    have HX : Hid (∀ x ∈ l, x.size ≤ 1000000) := Lib.hid (fun x hx => by have := (hb rfl).2 x hx; omega)
    clear hb
    go_wp2_with fail
    go_region_held3 (fun w' => w'.cell? ⟨w.heap.size, 0, none⟩ = some c ∧ w'.cell? ⟨w.heap.size, 1, none⟩ = some (.int .i64 er) ∧ w'.cell? ⟨w.heap.size, 2, none⟩ = some (.int .i64 at_))
      (first | go_keep)
      (first
        | (go_at_call 11; refine (cmdMsg _ l _ _ _ _ (HA.out.below (by go_grown)) HX.out).mono ?_; rintro e w' ⟨rfl, rfl⟩)
        | (go_at_call 12; refine (refMsg _ l _ _ _ _ (HA.out.below (by go_grown)) HX.out).mono ?_; rintro e w' ⟨rfl, rfl⟩)
        | (go_at_call 6; refine (awake38 _).mono ?_; rintro e w1 ⟨rfl, hb1⟩; have k0 := fun i => hb1.cell (p := ⟨w.heap.size, i, none⟩) (by first | (simp; done) | (simp; omega))))
    go_wp2
    go_ret
    refine ⟨rfl, Below.trans ?_ (hb1.mono ?_)⟩
    · go_grown
    · simp; omega
end Go.Proofs.Ytgheiadnjnnjfaa
