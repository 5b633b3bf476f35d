/- Contracts of lex.Key, lex.Dir, clewref09.holds, clewref09.Key, clewref09.Dir: keywords and directions. -/
import Derived.Test.YtdommneciojiaaaKeyPlain
import Derived.Test.YtdommneciojiaaaShelf
namespace Go.Proofs.Ytdommneciojiaaa
open Go.RowKit Go.PlainAid

theorem space_in (l : List UInt8) : (decide (0 ≤ Lib.indexByte l 32)) = decide ((32 : UInt8) ∈ l) := by
  rw [Bool.eq_iff_iff]
  simp only [decide_eq_true_eq]
  have hg := Lib.indexByte_ge l 32
  constructor
  · intro h
    obtain ⟨o, ho⟩ := Int.eq_ofNat_of_zero_le h
    exact List.mem_of_getElem? (Lib.indexByte_some ho).1
  · intro hm
    rcases Int.lt_or_le (Lib.indexByte l 32) 0 with h | h
    · exfalso
      obtain ⟨k, hk, e⟩ := List.getElem_of_mem hm
      have := Lib.indexByte_none (show Lib.indexByte l 32 = -1 by omega) k
      rw [List.getElem?_eq_getElem hk, e] at this
      exact this rfl
    · exact h
theorem keyL_nil : keyL [] = false := by decide +kernel
theorem empty_of (s : ByteArray) (h : s.size = 0) : s = ByteArray.empty := by simpa using h
theorem toList_some {s : ByteArray} (hz : 0 < s.size) : s.toList.isEmpty = false ∧ ¬ s.toList = [] := by
  have h : s.data.toList ≠ [] := by
    intro e
    have := congrArg List.length e
    simp at this; rw [this] at hz; simp at hz
  rw [Lib.toList_data]
  exact ⟨by cases h' : s.data.toList <;> simp_all, h⟩
theorem blank_app (s : ByteArray) : ((⟨#[32]⟩ : ByteArray) ++ s ++ ⟨#[32]⟩).data.toList = 32 :: (s.data.toList ++ [32]) := by
  simp [ByteArray.data_append]

set_option maxRecDepth 100000 in
theorem lexKey (s : ByteArray) (m : Int) (w : World) (hs : s.size ≤ 1000000) (hm : w.cell? ⟨0, 0, none⟩ = some (.int .i64 m)) :
    Calls Try.prog 23 #[.string s] w fun e w' => e = .returned (.bool (keyL s.data.toList)) ∧ w = w' := by
  by_cases hz : 0 < s.size
  · have h1 := (toList_some hz).1
    have h2 := (toList_some hz).2
    by_cases hsp : (32 : UInt8) ∈ s.data.toList
    · have hk : keyL s.data.toList = false := by
        cases h : keyL s.data.toList with
        | false => rfl
        | true => exact absurd hsp (keyL_form h).2.1
      have hd : decide (0 ≤ Lib.indexByte s.data.toList 32) = true := by rw [space_in]; simp [hsp]
      rw [hk]
      clear hk hsp
      go_enter Try.func23, Try.ntmps23
      go_wp2_with fail
      refine (Try.strings_Contains_one s 32 _).mono ?_
      rintro e w' ⟨rfl, rfl⟩
      rw [hd]
      go_wp2_with fail
      go_ret
      exact ⟨rfl, rfl⟩
    · have hd : decide (0 ≤ Lib.indexByte s.data.toList 32) = false := by rw [space_in]; simp [hsp]
      have HK := Lib.hid (contains_key s.data.toList hsp)
      clear hsp
      go_enter Try.func23, Try.ntmps23
      go_wp2_with fail
      refine (Try.strings_Contains_one s 32 _).mono ?_
      rintro e w' ⟨rfl, rfl⟩
      rw [hd]
      go_wp2_with fail
      refine (Try.strings_Contains _ _ m _ (by decide +kernel) hm).mono ?_
      rintro e w' ⟨rfl, rfl⟩
      go_wp2_with fail
      go_ret
      refine ⟨ret_b ?_, rfl⟩
      rw [← HK.out, ← blank_app]
      rfl
  · have := empty_of s (by omega)
    subst this
    have hk : keyL ByteArray.empty.data.toList = false := keyL_nil
    rw [hk]
    go_enter Try.func23, Try.ntmps23
    go_wp2_with fail
    go_ret
    exact ⟨rfl, rfl⟩
end Go.Proofs.Ytdommneciojiaaa
