/- Contract of clewref04.Few: where it answers true, no text is longer than the most. -/
import Derived.Test.YtgheiadnjnnjfaaBase
namespace Go.Proofs.Ytgheiadnjnnjfaa
open Go.RowKit Go.PlainAid

def FewPost (l : List ByteArray) (n most : Int) (w : World) (e : Ending) (w' : World) : Prop :=
  ∃ b, e = .returned (.bool b) ∧ (b = true → (l.length : Int) ≤ n ∧ ∀ x ∈ l, (x.size : Int) ≤ most) ∧ w = w'

set_option maxHeartbeats 400000 in
theorem few_any (va : Value) (l : List ByteArray) (n most : Int) (w : World) (ha : SL w va (l.map Value.string)) (hz : ∀ x ∈ l, x.size ≤ maxLen) (_hn : 0 ≤ n) (hn1 : n ≤ 1000000) (hm0 : 0 ≤ most) (hm1 : most ≤ 1000000) :
    Calls Try.prog 10 #[va, .int .i64 n, .int .i64 most] w (FewPost l n most w) := by
  have hm := ha.1
  rw [List.length_map] at hm
  unfold maxLen at hm
  by_cases hl : n < l.length
  · obtain ⟨a, c, hv⟩ := ha.len
    subst hv
    rw [List.length_map]
    go_enter Try.func10, Try.ntmps10
    go_wp2
    go_ret
    exact ⟨false, rfl, (fun h => by cases h), rfl⟩
  · obtain ⟨a, c, hv⟩ := ha.len
    have HA := Lib.hid ha
    subst hv
    rw [List.length_map] at *
    go_enter Try.func10, Try.ntmps10
    go_wp2
    go_loop [7, 8] (fun s i => ∃ (k : Nat) (t : Int), k ≤ l.length ∧ i = .int .i64 k ∧ s = .int .i64 t ∧ 0 ≤ t ∧ t ≤ k * 1000000 ∧ Hid (∀ j (h : j < l.length), j < k → (l[j].size : Int) ≤ most)) (fun _ i => l.length - (intOf i).toNat)
    case atStart => exact ⟨0, 0, Nat.zero_le _, rfl, rfl, Int.le_refl _, by omega, Lib.hid (fun j _ h => by omega)⟩
    case round =>
      obtain ⟨k, t, hk, rfl, rfl, ht0, ht1, hall⟩ := hrel
      by_cases hlt : k < l.length
      · rcases HA.out.2 with ⟨h0, _⟩ | ⟨b, off, c2, hv, hb, hc⟩
        · have : l.length = 0 := by have := congrArg List.length h0; simpa using this
          omega
        · have hv1 := (Value.slice.inj hv).1
          subst hv1
          have hx := hc k (by simpa using hlt)
          rw [List.getElem_map] at hx
          have hxm := hz _ (List.getElem_mem hlt)
          have HX : Hid (∀ (h : (l[k].size : Int) ≤ most), ∀ j (h : j < l.length), j < k + 1 → (l[j].size : Int) ≤ most) := Lib.hid (fun h j hj hjk => by
            by_cases e : j = k
            · subst e; exact h
            · exact hall.out j hj (by omega))
          clear hc hv
          generalize l[k] = x at hx hxm HX
          unfold maxLen at hxm
          by_cases hbig : most < x.size
          · go_wp2
            go_ret
            exact ⟨false, rfl, (fun h => by cases h), rfl⟩
          · go_wp2
            go_round
            case rel => exact ⟨k + 1, t + x.size, by omega, by go_num, rfl, by omega, by omega, Lib.hid (HX.out (by omega))⟩
            case measure => simp [intOf]; omega
      · go_wp2
        go_ret
        refine ⟨_, rfl, fun _ => ⟨by omega, fun x hx => ?_⟩, rfl⟩
        obtain ⟨j, hj, rfl⟩ := List.getElem_of_mem hx
        exact hall.out j hj (by omega)
end Go.Proofs.Ytgheiadnjnnjfaa
