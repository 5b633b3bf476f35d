/- Contract of clewref38.Lists where both hold the same lists of texts: it answers true. -/
import Derived.Test.YtgheiadnjnnjfaaSame
namespace Go.Proofs.Ytgheiadnjnnjfaa
open Go.RowKit Go.PlainAid

set_option maxHeartbeats 800000 in
theorem lists_true (va vb : Value) (ls : List (List ByteArray)) (w : World) (ha : LL w va ls) (hb : LL w vb ls) :
    Calls Try.prog 9 #[va, vb] w fun e w' => e = .returned (.bool true) ∧ ∃ n, w' = w.drewN n := by
  obtain ⟨vs, hs, hn, hp⟩ := ha
  obtain ⟨us, hs2, hn2, hp2⟩ := hb
  have hm := hs.1
  unfold maxLen at hm
  by_cases h0 : ls.length = 0
  · obtain ⟨a, c, rfl⟩ := hs.len
    obtain ⟨a2, c2, rfl⟩ := hs2.len
    rw [hn, hn2, h0]
    go_enter Try.func9, Try.ntmps9
    go_wp2
    go_rounds 1
    go_ret
    exact ⟨rfl, 0, rfl⟩
  · rcases hs.2 with ⟨hl, _⟩ | ⟨b, off, c, rfl, hlt, hc⟩
    · rw [hl] at hn; exact absurd hn.symm h0
    rcases hs2.2 with ⟨hl, _⟩ | ⟨b2, off2, c2, rfl, hlt2, hc2⟩
    · rw [hl] at hn2; exact absurd hn2.symm h0
    have HC := Lib.hid hc
    have HC2 := Lib.hid hc2
    have HP := Lib.hid hp
    have HP2 := Lib.hid hp2
    clear hc hc2 hs hs2 hp hp2 h0
    rw [hn, hn2]
    rw [hn] at hm
    obtain ⟨L, hL⟩ : ∃ L, ls.length = L := ⟨_, rfl⟩
    rw [hL] at hm
    rw [hL]
    have HL := Lib.hid hL
    have HN := Lib.hid hn
    have HN2 := Lib.hid hn2
    clear hL hn hn2
    go_enter Try.func9, Try.ntmps9
    go_wp2
    go_loopw [5] (fun i wr => ∃ k n : Nat, k ≤ L ∧ i = .int .i64 k ∧ wr = w.drewN n) (fun i _ => L - (intOf i).toNat)
    case atStart => exact ⟨0, 0, Nat.zero_le _, rfl, rfl⟩
    case round =>
      obtain ⟨k, n, hk, rfl, rfl⟩ := hrel
      by_cases hlt3 : k < L
      · have k0 : k < ls.length := by have := HL.out; omega
        have k1 : k < vs.length := by have := HN.out; omega
        have k2 : k < us.length := by have := HN2.out; omega
        have h1 := HC.out k k1
        have h2 := HC2.out k k2
        have h3 := HP.out k k1 k0
        have h4 := HP2.out k k2 k0
        generalize ls[k] = lk at h3 h4
        generalize vs[k] = x at h1 h3
        generalize us[k] = y at h2 h4
        have H3 := Lib.hid h3
        have H4 := Lib.hid h4
        clear h3 h4 k0 k1 k2
        go_wp2_with fail
        go_quiet ((go_at_call 17; exact quiet_add (same_true _ _ _ _ (H3.out.below (below_drewN (Below.refl _ _) _)) (H4.out.below (below_drewN (Below.refl _ _) _)))))
        go_wp2
        go_roundw
        case rel => exact ⟨k + 1, _, by omega, by go_num, rfl⟩
        case measure => simp [intOf]; omega
      · go_wp2
        go_ret
        exact ⟨rfl, n, rfl⟩
end Go.Proofs.Ytgheiadnjnnjfaa
