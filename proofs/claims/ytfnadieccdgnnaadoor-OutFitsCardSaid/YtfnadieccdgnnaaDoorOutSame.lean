/- Contract of clewref14.SameTexts where both lists hold the same texts: it answers true. Contracts of out.Centre and clewref44.Centre. -/
import Derived.Test.YtfnadieccdgnnaaDoorSlice
import Derived.Test.YtfnadieccdgnnaaDoorOutRef
import Derived.Test.YtfnadieccdgnnaaDoorShelf
import Derived.BigQuiet
import Derived.Deep.QuietTactic
namespace Go.Proofs.YtfnadieccdgnnaaDoor
open Go.RowKit Go.PlainAid
set_option linter.unusedVariables false
set_option linter.unusedSimpArgs false

theorem same14 (va vb : Value) (l : List (List UInt8)) (w : World) (ha : SL w va (l.map strV)) (hb : SL w vb (l.map strV)) :
    Calls Tryd.prog 8 #[va, vb] w fun e w' => e = .returned (.bool true) ∧ ∃ n, w' = w.drewN n := by
  have hm := ha.1
  unfold maxLen at hm
  rcases ha.2 with ⟨hl, a, c, rfl, _⟩ | ⟨b, off, c, rfl, hlt, hc⟩
  · obtain ⟨a2, c2, rfl⟩ := hb.len
    rw [hl]
    go_enter Tryd.func8, Tryd.ntmps8
    go_wp2
    go_rounds 1
    go_ret
    exact ⟨rfl, 0, rfl⟩
  · rcases hb.2 with ⟨hl, a, c2, rfl, _⟩ | ⟨b2, off2, c2, rfl, hlt2, hc2⟩
    · rw [hl]
      go_enter Tryd.func8, Tryd.ntmps8
      go_wp2
      go_rounds 1
      go_ret
      exact ⟨rfl, 0, rfl⟩
    · have HC : Hid (∀ i (h : i < l.length), w.cell? ⟨b, off + i, none⟩ = some (strV l[i])) := Lib.hid (fun i h => by rw [hc i (by simpa using h)]; simp)
      have HC2 : Hid (∀ i (h : i < l.length), w.cell? ⟨b2, off2 + i, none⟩ = some (strV l[i])) := Lib.hid (fun i h => by rw [hc2 i (by simpa using h)]; simp)
      clear hc hc2 ha hb
      rw [List.length_map] at *
      obtain ⟨L, hL⟩ : ∃ L, l.length = L := ⟨_, rfl⟩
      rw [hL] at hm
      rw [hL]
      have HL := Lib.hid hL
      clear hL
      go_enter Tryd.func8, Tryd.ntmps8
      go_wp2
      go_loopw [5] (fun i wr => ∃ k n : Nat, k ≤ L ∧ i = .int .i64 k ∧ wr = w.drewN n) (fun i _ => L - (intOf i).toNat)
      case atStart => exact ⟨0, 0, Nat.zero_le _, rfl, rfl⟩
      case round =>
        obtain ⟨k, n, hk, rfl, rfl⟩ := hrel
        by_cases hlt3 : k < L
        · have h1 := HC.out k (by have := HL.out; omega)
          have h2 := HC2.out k (by have := HL.out; omega)
          generalize l[k]'(by have := HL.out; omega) = x at h1 h2
          unfold strV at h1 h2
          generalize mkB x = x at h1 h2
          go_wp2_with fail
          go_quiet (fail)
          go_wp2
          go_roundw
          case rel => exact ⟨k + 1, _, by omega, by go_num, rfl⟩
          case measure => simp [intOf]; omega
        · go_wp2
          go_ret
          exact ⟨rfl, n, rfl⟩

/-- A text in the middle of a line. -/
def padN (n : Nat) (l : List UInt8) : Nat := (n - l.length) / 2
def centreO (n : Nat) (l : List UInt8) : List UInt8 := List.replicate (padN n l) 32 ++ l
theorem repeat_one (k : Nat) : Lib.repeatL [32] k = List.replicate k 32 := by
  induction k with
  | zero => rfl
  | succ k ih =>
    show 32 :: Lib.repeatL [32] k = _
    rw [ih]; rfl
set_option maxRecDepth 100000 in
theorem outCentre (l : List UInt8) (width : Int) (w : World) (hl : l.length ≤ 100000) :
    Calls Tryd.prog 13 #[.string (mkB l), .int .i64 width] w fun e w' => e = .returned (.string (mkB (centreO (wideN width) l))) ∧ Below w.heap.size w w' := by
  have hwb := wide_bd width
  have HW := Lib.hid (fun w => outWide width w)
  obtain ⟨n, hn⟩ : ∃ n, wideN width = n := ⟨_, rfl⟩
  rw [hn] at hwb HW
  rw [hn]
  clear hn
  have hls := mkB_size l
  have hp : padN n l = (n - l.length) / 2 := rfl
  have hpb : padN n l ≤ 256 := by omega
  have HR : Hid (∀ w, Calls Tryd.prog 21 #[.string ⟨#[32]⟩, .int .i64 (padN n l)] w fun e w' => e = .returned (.string (mkB (List.replicate (padN n l) 32))) ∧ Below w.heap.size w w') := Lib.hid (fun w => (Tryd.strings_Repeat ⟨#[32]⟩ (padN n l) w (by omega) (by show 1 * _ ≤ _; omega)).mono fun e w' ⟨h1, h2⟩ => ⟨by rw [h1, ← repeat_one]; rfl, h2⟩)
  have HE : Hid (mkB (List.replicate (padN n l) 32) ++ mkB l = mkB (centreO n l)) := Lib.hid (by rw [mkB_app]; rfl)
  have HZ : (mkB (List.replicate (padN n l) 32)).size = padN n l := by rw [mkB_size]; simp
  obtain ⟨k, hk⟩ : ∃ k, padN n l = k := ⟨_, rfl⟩
  rw [hk] at hp hpb HR HE HZ
  clear hk
  have h2 : max ((n : Int) - (l.length : Int)) 0 / 2 = (k : Int) := by omega
  rw [← h2] at HR
  clear hp h2
  go_enter Tryd.func13, Tryd.ntmps13
  go_wp2_with (first
    | (go_at_call 17; refine (HW.out _).mono ?_; rintro e w3 ⟨rfl, rfl⟩)
    | (go_at_call 21; with_reducible refine Calls.mono (HR.out _) ?_; rintro e w4 ⟨rfl, hb⟩))
  go_ret
  exact ⟨ret_s HE.out, hb⟩
theorem refCentre (l : List UInt8) (width : Int) (w : World) (hl : l.length ≤ 100000) :
    Calls Tryd.prog 14 #[.string (mkB l), .int .i64 width] w fun e w' => e = .returned (.string (mkB (centreO (wideN width) l))) ∧ w = w' := by
  have hwb := wide_bd width
  have HW := Lib.hid (fun w => refWide width w)
  obtain ⟨n, hn⟩ : ∃ n, wideN width = n := ⟨_, rfl⟩
  rw [hn] at hwb HW
  rw [hn]
  clear hn
  have hls := mkB_size l
  by_cases hln : l.length ≤ n
  · obtain ⟨k, hk⟩ : ∃ k, padN n l = k := ⟨_, rfl⟩
    have hp : k = (n - l.length) / 2 := hk.symm
    have h2 : (((n : Int) - (l.length : Int)) / 2) = (k : Int) := by omega
    have h3 : (0 : Int) ≤ (n : Int) - (l.length : Int) := by omega
    have hkb : k ≤ 256 := by omega
    have HE : Hid (List.replicate k 32 ++ l = centreO n l) := Lib.hid (by rw [← hk]; rfl)
    clear hp hk
    go_enter Tryd.func14, Tryd.ntmps14
    go_wp2_with (go_at_call 20; refine (HW.out _).mono ?_; rintro e w3 ⟨rfl, rfl⟩)
    go_loop [0, 5] (fun s i => ∃ (j : Nat) (z : List UInt8), j ≤ k ∧ i = .int .i64 j ∧ s = .string (mkB z) ∧ z.length ≤ 100000 + k - j ∧ Hid (z = List.replicate (k - j) 32 ++ l)) (fun _ i => (intOf i).toNat)
    case atStart => exact ⟨k, l, Nat.le_refl _, congrArg (Value.int .i64) h2, rfl, by omega, Lib.hid (by simp)⟩
    case round =>
      obtain ⟨j, z, hj, rfl, rfl, hzl, hZ⟩ := hrel
      have hzs := mkB_size z
      by_cases h0 : 0 < j
      · have HC : Hid ((⟨#[32]⟩ : ByteArray) ++ mkB z = mkB (32 :: z)) := Lib.hid (by
          have e : (⟨#[32]⟩ : ByteArray) = mkB [32] := rfl
          rw [e, mkB_app]; rfl)
        have HD : Hid (32 :: z = List.replicate (k - (j - 1)) 32 ++ l) := Lib.hid (by
          rw [hZ.out, show k - (j - 1) = (k - j) + 1 by omega, List.replicate_succ]; rfl)
        go_wp2
        go_round
        case rel => exact ⟨j - 1, _, by omega, by simp; omega, congrArg Value.string HC.out, by simp; omega, HD⟩
        case measure => simp [intOf]; omega
      · have : j = 0 := by omega
        subst this
        go_wp2
        go_ret
        exact ⟨ret_s (by rw [← HE.out, hZ.out]; rfl), rfl⟩
  · have h3 : (n : Int) - (l.length : Int) ≤ 0 := by omega
    have HE : Hid (l = centreO n l) := Lib.hid (by unfold centreO padN; rw [show n - l.length = 0 by omega]; rfl)
    go_enter Tryd.func14, Tryd.ntmps14
    have hq0 : (((n : Int) - (l.length : Int)).tdiv 2) ≤ 0 := by rw [Int.tdiv_eq_ediv]; have : Int.sign 2 = 1 := rfl; split <;> omega
    go_wp2_with (go_at_call 20; refine (HW.out _).mono ?_; rintro e w3 ⟨rfl, rfl⟩)
    go_rounds 1
    go_ret
    exact ⟨ret_s (by rw [← HE.out]), rfl⟩
end Go.Proofs.YtfnadieccdgnnaaDoor
