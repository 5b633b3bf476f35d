/- Contracts of clewref09.holds, clewref09.Key, clewref09.Dir, lex.Dir. -/
import Derived.Test.YtdommneciojiaaaKey
namespace Go.Proofs.Ytdommneciojiaaa
open Go.RowKit Go.PlainAid

def mkB (l : List UInt8) : ByteArray := ⟨l.toArray⟩
theorem mkB_size (l : List UInt8) : (mkB l).size = l.length := by show l.toArray.size = _; simp
theorem mkB_data (l : List UInt8) : (mkB l).data.toList = l := rfl
theorem mkB_of (s : ByteArray) : mkB s.data.toList = s := rfl
theorem mkB_toList (l : List UInt8) : (mkB l).toList = l := by rw [Lib.toList_data]; rfl
theorem ext_one (s : ByteArray) (k : Nat) (hk : k < s.data.toList.length) : s.extract k (k + 1) = mkB [s.data.toList[k]] := by
  rw [Lib.extract_eq, List.drop_eq_getElem_cons hk]
  simp [mkB]
theorem mkB_app (a b : List UInt8) : mkB a ++ mkB b = mkB (a ++ b) := by
  apply ByteArray.ext
  rw [ByteArray.data_append]; simp [mkB]
theorem bt_at' (s : ByteArray) (j : Nat) (h : j < s.data.toList.length) : bt s j = ((s.data.toList[j]).toNat : Int) := by
  have h' : j < s.size := by simpa using h
  unfold bt; rw [dif_pos h']; rfl
theorem bt_eq (s : ByteArray) (j : Nat) (h : j < s.data.toList.length) (n : UInt8) : (s.data.toList[j] = n) ↔ (bt s j = (n.toNat : Int)) := by
  rw [bt_at' s j h]
  constructor
  · intro h; rw [h]
  · intro h; apply UInt8.toNat_inj.1; omega
theorem bt_32 (s : ByteArray) (j : Nat) (h : j < s.data.toList.length) : (s.data.toList[j] = 32) ↔ bt s j = 32 := bt_eq s j h 32

/-- What holds answers. -/
def holdsN (row : ByteArray) (s : ByteArray) : Int := match idxW (cutW (row.data.toList.drop 1) []) s.data.toList 0 with
  | some n => n
  | none => 0
def holdsB (row : ByteArray) (s : ByteArray) : Bool := (idxW (cutW (row.data.toList.drop 1) []) s.data.toList 0).isSome
theorem holds_some {row s : ByteArray} {n : Nat} (h : idxW (cutW (row.data.toList.drop 1) []) s.data.toList 0 = some n) : holdsN row s = n ∧ holdsB row s = true := by unfold holdsN holdsB; rw [h]; exact ⟨rfl, rfl⟩
theorem holds_none {row s : ByteArray} (h : idxW (cutW (row.data.toList.drop 1) []) s.data.toList 0 = none) : holdsN row s = 0 ∧ holdsB row s = false := by unfold holdsN holdsB; rw [h]; exact ⟨rfl, rfl⟩
theorem ret_ib {a a' : Int} {b b' : Bool} (h : a = a') (h' : b = b') : Ending.returned (.tuple #[.int .i64 a, .bool b]) = .returned (.tuple #[.int .i64 a', .bool b']) := by rw [h, h']

set_option maxHeartbeats 800000 in
theorem refHolds (row s : ByteArray) (w : World) (hr : row.size ≤ 100000) : Calls Try.prog 53 #[.string row, .string s] w fun e w' => e = .returned (.tuple #[.int .i64 (holdsN row s), .bool (holdsB row s)]) ∧ w = w' := by
  have hb := get_bt row
  have hlen : row.data.toList.length = row.size := by simp
  have HLEN := Lib.hid hlen
  clear hlen
  by_cases h0 : row.size = 0
  · have := empty_of row h0
    subst this
    have H := Lib.hid (holds_none (row := ByteArray.empty) (s := s) rfl)
    go_enter Try.func53, Try.ntmps53
    go_wp2
    go_rounds 1
    go_ret2
    exact ⟨ret_ib H.out.1.symm H.out.2.symm, rfl⟩
  go_enter Try.func53, Try.ntmps53
  go_wp2
  go_loop [6, 7, 8] (fun n o i => ∃ (k N : Nat) (cur : List UInt8), 1 ≤ k ∧ k ≤ row.size ∧ i = .int .i64 k ∧ n = .int .i64 N ∧ o = .string (mkB cur) ∧ N ≤ k ∧ cur.length ≤ k ∧ Hid (idxW (cutW (row.data.toList.drop k) cur) s.data.toList N = idxW (cutW (row.data.toList.drop 1) []) s.data.toList 0)) (fun _ _ i => row.size - (intOf i).toNat)
  case atStart => exact ⟨1, 0, [], Nat.le_refl _, by omega, rfl, rfl, rfl, by omega, by simp, Lib.hid rfl⟩
  case round =>
    obtain ⟨k, N, cur, hk1, hk, rfl, rfl, rfl, hN, hcl, hI⟩ := hrel
    have hsz := mkB_size cur
    have hbz : (mkB cur).size ≤ 100000 := by omega
    have HSZ := Lib.hid hsz
    clear hsz
    by_cases hlt : k < row.size
    · have hkl : k < row.data.toList.length := by have := HLEN.out; omega
      have hcut : Hid (cutW (row.data.toList.drop k) cur = if bt row k = 32 then cur :: cutW (row.data.toList.drop (k + 1)) [] else cutW (row.data.toList.drop (k + 1)) (cur ++ [row.data.toList[k]])) := Lib.hid (by
        rw [List.drop_eq_getElem_cons hkl, cutW]
        simp only [bt_32 row k hkl])
      by_cases h32 : bt row k = 32
      · have h32' : (bt row k != 32) = false := by simp [h32]
        have HC := Lib.hid (hcut.out.trans (if_pos h32))
        clear hcut h32
        cases heq : ((mkB cur).toList == s.toList) with
        | true =>
          have he : cur = s.data.toList := by
            have := beq_iff_eq.1 heq
            rw [mkB_toList, Lib.toList_data] at this; exact this
          have H := Lib.hid (holds_some (row := row) (s := s) (n := N) (by rw [← hI.out, HC.out, idxW, if_pos he]))
          clear he
          go_wp2
          go_ret2
          exact ⟨ret_ib H.out.1.symm H.out.2.symm, rfl⟩
        | false =>
          have he : ¬ cur = s.data.toList := by
            intro e
            have := beq_eq_false_iff_ne.1 heq
            rw [mkB_toList, Lib.toList_data] at this; exact this e
          have HI := Lib.hid (show idxW (cutW (row.data.toList.drop (k + 1)) []) s.data.toList (N + 1) = idxW (cutW (row.data.toList.drop 1) []) s.data.toList 0 from by rw [← hI.out, HC.out, idxW, if_neg he])
          clear he
          go_wp2
          go_round
          case rel => exact ⟨k + 1, N + 1, [], by omega, by omega, by go_num, by go_num, rfl, by omega, by simp, HI⟩
          case measure => simp [intOf]; omega
      · have h32' : (bt row k != 32) = true := by simp [h32]
        have HC := Lib.hid (hcut.out.trans (if_neg h32))
        have HE := Lib.hid (show mkB cur ++ row.extract k (k + 1) = mkB (cur ++ [row.data.toList[k]]) by rw [ext_one row k hkl, mkB_app])
        have HI := Lib.hid (show idxW (cutW (row.data.toList.drop (k + 1)) (cur ++ [row.data.toList[k]])) s.data.toList N = idxW (cutW (row.data.toList.drop 1) []) s.data.toList 0 from by rw [← hI.out, HC.out])
        clear hcut h32
        go_wp2
        go_round
        case rel => exact ⟨k + 1, N, _, by omega, by omega, by go_num, rfl, by rw [HE.out], by omega, by simp; omega, HI⟩
        case measure => simp [intOf]; omega
    · have hend : idxW (cutW (row.data.toList.drop 1) []) s.data.toList 0 = none := by
        rw [← hI.out, List.drop_eq_nil_of_le (by have := HLEN.out; omega)]; rfl
      have H := Lib.hid (holds_none hend)
      clear hend
      go_wp2
      go_ret2
      exact ⟨ret_ib H.out.1.symm H.out.2.symm, rfl⟩

set_option maxRecDepth 100000 in
theorem refKey (s : ByteArray) (w : World) : Calls Try.prog 31 #[.string s] w fun e w' => e = .returned (.bool (keyL s.data.toList)) ∧ w = w' := by
  have h1 : Hid (holdsB (mkB keysL) s = (idxW keysW s.data.toList 0).isSome) := Lib.hid rfl
  have h2 : Hid (holdsB (mkB dirsL) s = (idxW dirsW s.data.toList 0).isSome) := Lib.hid rfl
  have hk := Lib.hid (keyL_ref s.data.toList)
  go_enter Try.func31, Try.ntmps31
  go_wp2_with fail
  refine (refHolds (mkB keysL) s _ (by rw [mkB_size]; decide +kernel)).mono ?_
  rintro e w' ⟨rfl, rfl⟩
  go_wp2_with fail
  refine (refHolds (mkB dirsL) s _ (by rw [mkB_size]; decide +kernel)).mono ?_
  rintro e w' ⟨rfl, rfl⟩
  cases e1 : holdsB (mkB keysL) s <;> cases e2 : holdsB (mkB dirsL) s
  all_goals
    go_wp2_with fail
    go_ret
    exact ⟨ret_b (by rw [← hk.out, ← h1.out, ← h2.out, e1, e2]; rfl), rfl⟩
theorem dir_some {s : ByteArray} (h : holdsB (mkB dirsL) s = true) : dirL s.data.toList = holdsN (mkB dirsL) s + 1 ∧ 0 ≤ holdsN (mkB dirsL) s ∧ holdsN (mkB dirsL) s ≤ 1000000 := by
  have hb : ∀ (l : List (List UInt8)) (x : List UInt8) (n k : Nat), idxW l x n = some k → k ≤ n + l.length := by
    intro l
    induction l with
    | nil => intro x n k h; simp [idxW] at h
    | cons a t ih =>
      intro x n k h
      rw [idxW] at h
      by_cases e : a = x
      · rw [if_pos e] at h; simp at h; simp; omega
      · rw [if_neg e] at h; have := ih _ _ _ h; simp; omega
  have hl : dirsW.length = 12 := by decide +kernel
  unfold holdsB at h
  unfold holdsN dirL
  change (idxW dirsW s.data.toList 0).isSome = true at h
  change (match idxW dirsW s.data.toList 0 with | some n => ((n : Nat) : Int) + 1 | none => 0) = (match idxW dirsW s.data.toList 0 with | some n => ((n : Nat) : Int) | none => 0) + 1 ∧ _ ≤ (match idxW dirsW s.data.toList 0 with | some n => ((n : Nat) : Int) | none => 0) ∧ (match idxW dirsW s.data.toList 0 with | some n => ((n : Nat) : Int) | none => 0) ≤ _
  cases e : idxW dirsW s.data.toList 0 with
  | none => rw [e] at h; simp at h
  | some n =>
    have h3 := hb _ _ _ _ e
    rw [hl] at h3
    exact ⟨rfl, Int.natCast_nonneg _, by show (n : Int) ≤ 1000000; omega⟩
theorem dir_none {s : ByteArray} (h : holdsB (mkB dirsL) s = false) : dirL s.data.toList = 0 := by
  unfold holdsB at h
  unfold dirL
  change (idxW dirsW s.data.toList 0).isSome = false at h
  cases e : idxW dirsW s.data.toList 0 with
  | none => rfl
  | some n => rw [e] at h; simp at h
end Go.Proofs.Ytdommneciojiaaa
