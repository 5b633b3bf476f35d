/- Contracts of clewref04.Same and clewref38.Lists where both lists hold the same texts: they answer true. -/
import Derived.Test.YtgheiadnjnnjfaaBase
import Derived.BigQuiet
import Derived.Deep.QuietTactic
namespace Go.Proofs.Ytgheiadnjnnjfaa
open Go.RowKit Go.PlainAid

theorem same_true (va vb : Value) (l : List ByteArray) (w : World) (ha : SL w va (l.map Value.string)) (hb : SL w vb (l.map Value.string)) :
    Calls Try.prog 17 #[va, vb] w fun e w' => e = .returned (.bool true) ∧ ∃ n, w' = w.drewN n := by
  have hm := ha.1
  unfold maxLen at hm
  rcases ha.2 with ⟨hl, a, c, rfl, _⟩ | ⟨b, off, c, rfl, hlt, hc⟩
  · obtain ⟨a2, c2, rfl⟩ := hb.len
    rw [hl]
    go_enter Try.func17, Try.ntmps17
    go_wp2
    go_rounds 1
    go_ret
    exact ⟨rfl, 0, rfl⟩
  · rcases hb.2 with ⟨hl, a, c2, rfl, _⟩ | ⟨b2, off2, c2, rfl, hlt2, hc2⟩
    · rw [hl]
      go_enter Try.func17, Try.ntmps17
      go_wp2
      go_rounds 1
      go_ret
      exact ⟨rfl, 0, rfl⟩
    · have HC : Hid (∀ i (h : i < l.length), w.cell? ⟨b, off + i, none⟩ = some (.string l[i])) := Lib.hid (fun i h => by rw [hc i (by simpa using h)]; simp)
      have HC2 : Hid (∀ i (h : i < l.length), w.cell? ⟨b2, off2 + i, none⟩ = some (.string l[i])) := Lib.hid (fun i h => by rw [hc2 i (by simpa using h)]; simp)
      clear hc hc2 ha hb
      rw [List.length_map] at *
      obtain ⟨L, hL⟩ : ∃ L, l.length = L := ⟨_, rfl⟩
      rw [hL] at hm
      rw [hL]
      have HL := Lib.hid hL
      clear hL
      go_enter Try.func17, Try.ntmps17
      go_wp2
      go_loopw [5] (fun i wr => ∃ k n : Nat, k ≤ L ∧ i = .int .i64 k ∧ wr = w.drewN n) (fun i _ => L - (intOf i).toNat)
      case atStart => exact ⟨0, 0, Nat.zero_le _, rfl, rfl⟩
      case round =>
        obtain ⟨k, n, hk, rfl, rfl⟩ := hrel
        by_cases hlt3 : k < L
        · have h1 := HC.out k (by have := HL.out; omega)
          have h2 := HC2.out k (by have := HL.out; omega)
          generalize l[k]'(by have := HL.out; omega) = x at h1 h2
          go_wp2_with fail
          go_quiet (fail)
          go_wp2
          go_roundw
          case rel => exact ⟨k + 1, _, by omega, by go_num, rfl⟩
          case measure => simp [intOf]; omega
        · go_wp2
          go_ret
          exact ⟨rfl, n, rfl⟩

/-- The slice value v reads as lists of texts. -/
def LL (w : World) (v : Value) (ls : List (List ByteArray)) : Prop :=
  ∃ vs, SL w v vs ∧ vs.length = ls.length ∧ ∀ i (h : i < vs.length) (h' : i < ls.length), SL w vs[i] (ls[i].map Value.string)

theorem LL.below {w w' : World} {v : Value} {ls : List (List ByteArray)} (h : LL w v ls) (hb : Below w.heap.size w w') : LL w' v ls := by
  obtain ⟨vs, h1, h2, h3⟩ := h
  exact ⟨vs, h1.below hb, h2, fun i a b => (h3 i a b).below hb⟩
theorem below_drewN {B : Nat} {a w : World} (h : Below B a w) (n : Nat) : Below B a (w.drewN n) := h.trans ⟨rfl, rfl, rfl, Nat.le_refl _, fun _ _ => rfl⟩

theorem quiet_add {P : Program} {f : FuncId} {args : Array Value} {w : World} {a n : Nat} {v : Value}
    (h : Calls P f args (w.drewN (a + n)) fun e w' => e = .returned v ∧ ∃ m, w' = (w.drewN (a + n)).drewN m) :
    Calls P f args (w.drewN (a + n)) fun e w'' => e = .returned v ∧ ∃ m, w'' = w.drewN (a + m) :=
  h.mono fun _ _ ⟨he, m, hm⟩ => ⟨he, n + m, by rw [hm, World.drewN_drewN, Nat.add_assoc]⟩
end Go.Proofs.Ytgheiadnjnnjfaa
