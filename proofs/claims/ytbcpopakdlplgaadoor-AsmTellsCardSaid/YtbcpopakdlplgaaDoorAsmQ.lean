/- Contract of clewlaw30.sameIns, of lists that are the same. -/
import Derived.Test.YtbcpopakdlplgaaDoorAsmN
import Derived.Deep.QuietTactic
import Derived.BigQuiet
namespace Go.Proofs.YtbcpopakdlplgaaDoor
open Go.RowKit Go.PlainAid Go.Maps
set_option linter.unusedVariables false
set_option linter.unusedSimpArgs false

set_option maxRecDepth 100000 in
set_option maxHeartbeats 4000000 in
theorem sameC (v1 v2 : Value) (l : List IN) (w : World) (h1 : Reads Cd.ins.seq w v1 l) (h2 : Reads Cd.ins.seq w v2 l) :
    Calls Tryd.prog 12 #[v1, v2] w fun e w' => e = .returned (.bool true) ∧ ∃ q, w' = w.drewN q := by
  obtain ⟨a1, c1, hv1, hcap1, hm⟩ := h1.len
  obtain ⟨a2, c2, hv2, hcap2, _⟩ := h2.len
  subst hv1; subst hv2
  have HC1 := Lib.hid (cells_of h1).1
  have HC2 := Lib.hid (cells_of h2).1
  obtain ⟨n, hn⟩ : ∃ n, l.length = n := ⟨_, rfl⟩
  have HN := Lib.hid hn
  rw [hn] at hcap1 hcap2 hm ⊢
  clear h1 h2 hn
  unfold maxLen at hm
  go_enter Tryd.func12, Tryd.ntmps12
  go_wp2
  go_loopw [13] (fun i wr => ∃ k q : Nat, i = .int .i64 k ∧ k ≤ n ∧ wr = w.drewN q) (fun i _ => n - (intOf i).toNat)
  case atStart => exact ⟨0, 0, rfl, Nat.zero_le _, rfl⟩
  case round =>
    obtain ⟨k, q, rfl, hk, rfl⟩ := hrel
    by_cases hlt : k < n
    · have hkl : k < l.length := by rw [HN.out]; exact hlt
      obtain ⟨b, off, ha, hblt, hw, hx0, hx1⟩ := HC1.out k hkl
      obtain ⟨b', off', ha', hblt', hw', hy0, hy1⟩ := HC2.out k hkl
      subst ha; subst ha'
      obtain ⟨x, hx⟩ : ∃ x, l[k] = x := ⟨_, rfl⟩
      rw [hx] at hw hx0 hx1 hy0 hy1
      have hk0 : (0 : Int) ≤ (k : Int) := by omega
      have hk1 : (k : Int) < (n : Int) := by omega
      clear hx hw hw'
      go_wp2_with fail
      go_quiet (fail)
      go_wp2
      go_roundw
      case rel => exact ⟨k + 1, q + nq, by go_num, by omega, by simp [World.drewN_drewN]⟩
      case measure => simp [intOf]; omega
    · have hkn : k = n := by omega
      subst hkn
      go_wp2
      go_ret
      exact ⟨rfl, q, rfl⟩
end Go.Proofs.YtbcpopakdlplgaaDoor
