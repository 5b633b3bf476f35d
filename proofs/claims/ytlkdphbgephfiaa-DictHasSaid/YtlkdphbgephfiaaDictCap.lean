/- Contract of clewref04.Cap: a text whose first letter is made great; what key that has. -/
import Derived.Test.YtlkdphbgephfiaaDictKey
import Derived.Test.YtlkdphbgephfiaaFitsA
namespace Go.Proofs.Ytlkdphbgephfiaa
open Go.RowKit Go.PlainAid
set_option linter.unusedVariables false
set_option linter.unusedSimpArgs false

theorem wordOk_key {l : List UInt8} (h : WordOk l) : keyW l = l := by
  unfold keyW
  have e : l.map lowU = l := by
    have h1 : l.map lowU = l.map id := List.map_congr_left (fun c hc => lowU_other (h.2.2.2 c hc).2)
    rw [h1, List.map_id]
  rw [e, List.take_of_length_le h.2.1]
/-- A text whose first letter is great. -/
def capL : List UInt8 → List UInt8
  | [] => []
  | c :: t => if smallB (c.toNat : Int) = true then (c - 32) :: t else c :: t
theorem capL_cons (c : UInt8) (t : List UInt8) : capL (c :: t) = if smallB (c.toNat : Int) = true then (c - 32) :: t else c :: t := rfl
theorem cap_sub {c : UInt8} (h : smallB (c.toNat : Int) = true) : (c - 32).toNat = c.toNat - 32 := by
  simp only [smallB, decide_eq_true_eq] at h
  rw [UInt8.toNat_sub_of_le]
  · rfl
  · rw [UInt8.le_iff_toNat_le]; show 32 ≤ c.toNat; omega
theorem cap_low {c : UInt8} (h : smallB (c.toNat : Int) = true) : lowU (c - 32) = c := by
  have e := cap_sub h
  simp only [smallB, decide_eq_true_eq] at h
  have hg : greatB ((c - 32).toNat : Int) = true := by
    simp only [greatB, decide_eq_true_eq]; rw [e]; omega
  apply UInt8.toNat_inj.1
  have h1 := lowU_great hg
  rw [e] at h1; omega
theorem cap_key {l : List UInt8} (h : WordOk l) : keyW (capL l) = l := by
  have h1 := wordOk_key h
  cases l with
  | nil => exact h1
  | cons c t =>
    rw [capL_cons]
    by_cases hs : smallB (c.toNat : Int) = true
    · rw [if_pos hs]
      have e : keyW ((c - 32) :: t) = keyW (c :: t) := by
        unfold keyW
        rw [List.map_cons, List.map_cons, cap_low hs, lowU_other (h.2.2.2 c (List.mem_cons_self ..)).2]
      rw [e, h1]
    · rw [if_neg hs]; exact h1
theorem capL_len (l : List UInt8) : (capL l).length = l.length := by
  cases l with
  | nil => rfl
  | cons c t => rw [capL_cons]; split <;> rfl
theorem cap_nil (s : ByteArray) (h : s.size = 0) : mkS (capL s.data.toList) = s := by
  have hl : s.data.toList = [] := List.length_eq_zero_iff.1 (by simpa using h)
  rw [hl]
  show mkS [] = s
  have : s.data = #[] := by simpa using hl
  unfold mkS
  cases s; simp_all
theorem cap_same (s : ByteArray) (h : 0 < s.size) (hs : smallB ((s[0]).toNat : Int) = false) : mkS (capL s.data.toList) = s := by
  have hd : s.data.toList = s[0] :: s.data.toList.drop 1 := by
    have := head_at s h
    cases hl : s.data.toList with
    | nil => rw [hl] at this; simp at this
    | cons c t => rw [hl] at this; simp at this; simp [this]
  have e : capL s.data.toList = s.data.toList := by
    rw [hd, capL_cons, if_neg (by rw [hs]; simp)]
  unfold mkS
  rw [e]
theorem cap_set (s : ByteArray) (h : 0 < s.size) (hs : smallB ((s[0]).toNat : Int) = true) : capL s.data.toList = s.data.toList.set 0 (s[0] - 32) := by
  have hd : s.data.toList = s[0] :: s.data.toList.drop 1 := by
    have := head_at s h
    cases hl : s.data.toList with
    | nil => rw [hl] at this; simp at this
    | cons c t => rw [hl] at this; simp at this; simp [this]
  rw [hd, capL_cons, if_pos hs]; rfl
set_option maxRecDepth 100000 in
set_option maxHeartbeats 4000000 in
theorem refCap (s : ByteArray) (w : World) (hs : s.size ≤ maxLen) : Calls Try.prog 21 #[.string s] w fun e w' => e = .returned (.string (mkS (capL s.data.toList))) ∧ Below w.heap.size w w' := by
  by_cases h0 : s.size = 0
  · have HE := Lib.hid (cap_nil s h0)
    go_enter Try.func21, Try.ntmps21
    go_wp2
    go_ret
    exact ⟨ret_s HE.out.symm, Below.refl _ _⟩
  · have h1 : 0 < s.size := by omega
    have hz : ((s.size : Int) == 0) = false := beq_eq_false_iff_ne.2 (by omega)
    have HX1 := Lib.hid (cap_same s h1)
    have HX2 := Lib.hid (cap_set s h1)
    have HSm := Lib.hid (fun w => ref_small ((s[0]'h1).toNat : Int) w)
    obtain ⟨cap, w1, hconv, hby, hbl, hlt⟩ := bytes_conv (P := Try.prog) w 9 63 5 s Try.underlying9 Try.underlying63 Try.underlying5
    unfold maxLen at hs
    have hl0 : 0 < s.data.toList.length := by simpa using h1
    have hc0 : s.data.toList[0] = s[0]'h1 := rfl
    have hc := (hby 0 hl0).1
    have hf := (hby 0 hl0).2
    rw [hc0] at hc
    cases hsm : smallB ((s[0]'h1).toNat : Int) with
    | false =>
      have HE := Lib.hid (HX1.out hsm)
      rw [hsm] at HSm
      clear hsm hconv hby hc hf h0 hc0 hl0
      go_enter Try.func21, Try.ntmps21
      go_wp2_with (go_at_call 41; refine (HSm.out _).mono ?_; rintro e w' ⟨rfl, rfl⟩)
      go_ret
      exact ⟨ret_s HE.out.symm, Below.refl _ _⟩
    | true =>
      have hE := HX2.out hsm
      have hsub := cap_sub hsm
      have hb2 := hby.set 0 (s[0]'h1 - 32)
      rw [← hE] at hb2
      have hback := back_conv (P := Try.prog) (w1.setCell ⟨w.heap.size, 0, none⟩ (.int .u8 ((s[0]'h1 - 32).toNat : Int))) 63 9 5 w.heap.size cap s.size (capL s.data.toList) Try.underlying63 Try.underlying5 Try.underlying9 (by rw [capL_len]; simp) hb2
      have hlo : 97 ≤ ((s[0]'h1).toNat : Int) ∧ ((s[0]'h1).toNat : Int) ≤ 122 := by simpa [smallB] using hsm
      have hsv : (((s[0]'h1 - 32).toNat : Nat) : Int) = ((s[0]'h1).toNat : Int) - 32 := by rw [hsub]; omega
      rw [hsv] at hback
      rw [hsm] at HSm
      have HBL := Lib.hid hbl
      clear hsm hsub hb2 hE hby h0 hc0 hl0 hsv HX1 HX2 hbl
      go_enter Try.func21, Try.ntmps21
      go_wp2_with (go_at_call 41; refine (HSm.out _).mono ?_; rintro e w' ⟨rfl, rfl⟩)
      go_ret
      exact ⟨rfl, HBL.out.setCell (Nat.le_refl _) _⟩
end Go.Proofs.Ytlkdphbgephfiaa
