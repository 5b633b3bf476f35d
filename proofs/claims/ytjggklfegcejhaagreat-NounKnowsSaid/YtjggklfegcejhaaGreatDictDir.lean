/- Contracts of the lists of directions, of dict.Dir and clewref35.Dir. -/
import Derived.Test.YtjggklfegcejhaaGreatDictKey
import Derived.Test.YtjggklfegcejhaaGreatFitsA
import Derived.Test.YtjggklfegcejhaaGreatGrow
namespace Go.Proofs.YtjggklfegcejhaaGreat
open Go.RowKit Go.PlainAid
set_option linter.unusedVariables false
set_option linter.unusedSimpArgs false

def strC (l : List UInt8) : Value := .string ⟨l.toArray⟩
/-- A literal list of texts reads as that. -/
theorem reads_lit {w : World} {k c : Nat} {l : List TxC} {T : TypeId} (h : BK w k (l.map strC) T) (hc : l.length ≤ c) (hl : l.length ≤ 1000) (hm : ∀ x ∈ l, x.length ≤ 1000) : Reads Cd.ss w (.slice (some ⟨k, 0, none⟩) l.length c) l := by
  refine ⟨⟨_, l.map (fun x => [strC x]), rfl, ⟨⟨by unfold maxLen; simp; omega, fun r hr => by obtain ⟨x, _, rfl⟩ := List.mem_map.1 hr; rfl, .inr ⟨k, 0, c, by simp, h.lt, fun i j hi hj => ?_⟩⟩, some ⟨k, 0, none⟩, c, by simp, by simpa using hc⟩, by simp, fun i h1 h2 => ?_⟩, by unfold reachBytes; omega⟩
  · have hi' : i < l.length := by simpa using hi
    have hj0 : j = 0 := by have : j < 1 := hj; omega
    subst hj0
    show w.cell? ⟨k, 0 + i * 1 + 0, none⟩ = _
    rw [show 0 + i * 1 + 0 = i by omega, h.cell]
    simp [hi']
  · refine ⟨by simp [strC], ?_⟩
    have := hm l[i] (List.getElem_mem _)
    unfold maxLen; omega
theorem dictDirs (w : World) : Calls Tryz.prog 39 #[] w fun e w' => e = .returned (.slice (some ⟨w.heap.size, 0, none⟩) 12 12) ∧ w' = w.alloc (.cells (dirsW.map strC).toArray 9) := by
  go_enter Tryz.func39, Tryz.ntmps39
  go_wp2
  go_ret
  exact ⟨rfl, rfl⟩
theorem dictShorts (w : World) : Calls Tryz.prog 40 #[] w fun e w' => e = .returned (.slice (some ⟨w.heap.size, 0, none⟩) 10 10) ∧ w' = w.alloc (.cells (shortW.map strC).toArray 9) := by
  go_enter Tryz.func40, Tryz.ntmps40
  go_wp2
  go_ret
  exact ⟨rfl, rfl⟩
theorem dictExtras (w : World) : Calls Tryz.prog 41 #[] w fun e w' => e = .returned (.slice (some ⟨w.heap.size, 0, none⟩) 10 10) ∧ w' = w.alloc (.cells (extraW.map strC).toArray 9) := by
  go_enter Tryz.func41, Tryz.ntmps41
  go_wp2
  go_ret
  exact ⟨rfl, rfl⟩
/-- A literal list of texts has been laid. -/
def LitPost (l : List TxC) (n : Nat) (w : World) (e : Ending) (w' : World) : Prop := e = .returned (.slice (some ⟨w.heap.size, 0, none⟩) n n) ∧ BK w' w.heap.size (l.map strC) 9 ∧ Below w.heap.size w w'
theorem LitPost.of {l : List TxC} {n : Nat} {w w' : World} {e : Ending} (h : e = .returned (.slice (some ⟨w.heap.size, 0, none⟩) n n) ∧ w' = w.alloc (.cells (l.map strC).toArray 9)) : LitPost l n w e w' := by
  obtain ⟨h1, rfl⟩ := h
  exact ⟨h1, BK.new w _ _, bl_a (Below.refl _ _) _⟩
theorem mkS_inj {a b : List UInt8} (h : mkY a = mkY b) : a = b := by
  have := congrArg (fun s : ByteArray => s.data.toList) h
  simpa [mkY] using this
theorem idx_mk (k : List UInt8) : ∀ (l : List (List UInt8)) (i : Nat), Lib.idxFromS (l.map mkY) (mkY k) i = idxL k l i
  | [], _ => rfl
  | x :: t, i => by
    rw [List.map_cons, Lib.idxFromS, idxL, idx_mk k t (i + 1)]
    by_cases h : x = k
    · rw [if_pos h, if_pos (by rw [h])]
    · rw [if_neg h, if_neg (fun e => h (mkS_inj e))]
theorem index_lit (l : List TxC) (k : List UInt8) (n c b : Nat) (w : World) (T : TypeId) (hn : l.length = n) (hb : BK w b (l.map strC) T) (hl : n ≤ 1000) :
    Calls Tryz.prog 124 #[.slice (some ⟨b, 0, none⟩) n c, .string (mkY k)] w fun e w' => e = .returned (.int .i64 (idxL k l 0)) ∧ w = w' := by
  subst hn
  have h := Tryz.slices_Index_string b 0 l.length c (l.map mkY) (mkY k) w (by simp) (by omega) (fun j hj => by
    have hj' : j < l.length := by simpa using hj
    rw [Nat.zero_add, hb.cell]
    simp [hj', strC, mkY])
  refine h.mono fun e w' h => ⟨?_, h.2.symm⟩
  rw [h.1]
  unfold Lib.idxOfS
  rw [List.take_of_length_le (by simp), idx_mk]
theorem idxL_bd (k : List UInt8) : ∀ (l : List (List UInt8)) (i : Nat), -1 ≤ idxL k l i ∧ idxL k l i ≤ (i : Int) + l.length
  | [], i => by rw [idxL]; constructor <;> first | omega | (simp; done) | (simp; omega)
  | x :: t, i => by
    rw [idxL]
    have := idxL_bd k t (i + 1)
    split
    · simp; omega
    · simp at this ⊢; omega
theorem keyS_le (s : ByteArray) : (keyS s).size ≤ maxLen := by
  have := keyW_len s.data.toList
  show (keyS s).data.size ≤ _
  unfold keyS mkY maxLen
  simp; omega
theorem dir_bd (k : List UInt8) : -1 ≤ idxL k dirsW 0 ∧ idxL k dirsW 0 ≤ 12 ∧ -1 ≤ idxL k shortW 0 ∧ idxL k shortW 0 ≤ 10 := by
  have h1 := idxL_bd k dirsW 0
  have h2 := idxL_bd k shortW 0
  have e1 : dirsW.length = 12 := rfl
  have e2 : shortW.length = 10 := rfl
  rw [e1] at h1
  rw [e2] at h2
  omega
set_option maxRecDepth 100000 in
set_option maxHeartbeats 4000000 in
theorem dictDir (s : ByteArray) (w : World) (hs : s.size ≤ maxLen) : Calls Tryz.prog 99 #[.string s] w fun e w' => e = .returned (.int .i64 (dirK (keyW s.data.toList))) ∧ Below w.heap.size w w' := by
  have HK := Lib.hid (fun w => dictPlain s w hs)
  have HD : Hid (dirK (keyW s.data.toList) = max (idxL (keyW s.data.toList) dirsW 0) (idxL (keyW s.data.toList) shortW 0) + 1) := Lib.hid rfl
  have hb := dir_bd (keyW s.data.toList)
  have H1 := Lib.hid (fun b c w T h => index_lit dirsW (keyW s.data.toList) 12 c b w T rfl h (by decide))
  have H2 := Lib.hid (fun b c w T h => index_lit shortW (keyW s.data.toList) 10 c b w T rfl h (by decide))
  unfold keyS at HK
  generalize mkY (keyW s.data.toList) = K at HK H1 H2
  generalize idxL (keyW s.data.toList) dirsW 0 = i1 at H1 hb HD
  generalize idxL (keyW s.data.toList) shortW 0 = i2 at H2 hb HD
  obtain ⟨hb1, hb2, hb3, hb4⟩ := hb
  go_enter Tryz.func99, Tryz.ntmps99
  go_wp2_with fail
  refine (dictDirs _).mono ?_
  rintro e w1 ⟨rfl, rfl⟩
  go_wp2_with fail
  refine (HK.out _).mono ?_
  rintro e w2 ⟨rfl, h2⟩
  have HK2 := Lib.hid ((BK.new w (dirsW.map strC) 9).below h2)
  have HB2 := Lib.hid (bl_then (bl_a (Below.refl _ _) _) h2)
  clear h2
  go_wp2_with fail
  refine (H1.out _ _ _ _ HK2.out).mono ?_
  rintro e w3 ⟨rfl, rfl⟩
  go_wp2_with fail
  refine (dictShorts _).mono ?_
  rintro e w3 ⟨rfl, rfl⟩
  go_wp2_with fail
  refine (HK.out _).mono ?_
  rintro e w4 ⟨rfl, h4⟩
  have HK4 := Lib.hid ((BK.new w2 (shortW.map strC) 9).below h4)
  have HB4 := Lib.hid (bl_then HB2.out (bl_then (bl_a (Below.refl _ _) _) h4))
  clear h4
  go_wp2_with fail
  refine (H2.out _ _ _ _ HK4.out).mono ?_
  rintro e w5 ⟨rfl, rfl⟩
  go_wp2_with fail
  go_ret
  exact ⟨ret_i (by rw [HD.out]), HB4.out⟩
end Go.Proofs.YtjggklfegcejhaaGreat
