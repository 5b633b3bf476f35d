/- Contract of clewref09.text. -/
import Derived.Test.YtmelilppeikdiaaRefNum
import Derived.Test.YtmelilppeikdiaaText
namespace Go.Proofs.Ytmelilppeikdiaa
open Go.RowKit Go.PlainAid
set_option linter.unusedVariables false
set_option linter.unusedSimpArgs false

theorem results_tmp4 {fn : Func} {a b c d : Tmp} (h : fn.results = #[.tmp a, .tmp b, .tmp c, .tmp d]) (tmps : Array Value) (P : Program) (w : World) :
    (results fn tmps).run P w = .ok (.tuple #[tmps.getD a undef, tmps.getD b undef, tmps.getD c undef, tmps.getD d undef]) w := by
  simp [results, h]

def textR (i : Nat) (T : TK) : Value :=
  if T.err = 0 then .tuple #[.string (mkB T.text), .int .i64 ((i + T.len : Nat) : Int), .int .i64 0, .int .i64 0]
  else .tuple #[.string ⟨#[]⟩, .int .i64 0, .int .i64 T.err, .int .i64 ((i + T.off : Nat) : Int)]

theorem tx_all {s : ByteArray} {k : Nat} (out : List UInt8) (j : Nat) (h : k < s.size) : textL (sfx s k) out j =
    if bt s k = 10 then tx2
    else if bt s k = 34 then (if 1024 < out.length then ⟨3, [], 0, 0, 3, 0⟩ else ⟨3, out, 0, j + 1, 0, 0⟩)
    else if cSaid (bt s k) = false then ⟨3, [], 0, 0, 13, j⟩
    else if bt s k = 92 then (if bt s (k + 1) = 110 ∨ bt s (k + 1) = 34 ∨ bt s (k + 1) = 92 then textL (sfx s (k + 2)) (out ++ [escB (bt s (k + 1))]) (j + 2) else ⟨3, [], 0, 0, 4, j⟩)
    else textL (sfx s (k + 1)) (out ++ [ub s k]) (j + 1) := by
  split
  · exact tx_nl out j h ‹_›
  · split
    · exact tx_quote out j h ‹_›
    · split
      · exact tx_bad out j h ‹_› ‹_›
      · split
        · exact tx_esc out j h ‹_›
        · exact tx_step out j h ‹_› ‹_› (by simpa using ‹¬ cSaid (bt s k) = false›)
theorem tx_w1 {s : ByteArray} {k : Nat} (out : List UInt8) (j : Nat) (hks : k < s.size) (h1 : (bt s k == 10) = true) : textL (sfx s k) out j = tx2 := by
  rw [tx_all out j hks]
  (repeat' split) <;> first | rfl | (exfalso; simp_all [cMay, cSaid]; done) | (exfalso; simp_all [cMay, cSaid]; omega) | (exfalso; simp [cMay, cSaid] at *; omega) | (simp_all [escB, ub]; done)
theorem tx_w2 {s : ByteArray} {k : Nat} (out : List UInt8) (j : Nat) (hks : k < s.size) (h1 : (bt s k == 10) = false) (h2 : (bt s k == 34) = true) (h3 : (1024 : Int) < (out.length : Int)) : textL (sfx s k) out j = ⟨3, [], 0, 0, 3, 0⟩ := by
  rw [tx_all out j hks]
  (repeat' split) <;> first | rfl | (exfalso; simp_all [cMay, cSaid]; done) | (exfalso; simp_all [cMay, cSaid]; omega) | (exfalso; simp [cMay, cSaid] at *; omega) | (simp_all [escB, ub]; done)
theorem tx_w3 {s : ByteArray} {k : Nat} (out : List UInt8) (j : Nat) (hks : k < s.size) (h1 : (bt s k == 10) = false) (h2 : (bt s k == 34) = true) (h3 : (out.length : Int) ≤ 1024) : textL (sfx s k) out j = ⟨3, out, 0, j + 1, 0, 0⟩ := by
  rw [tx_all out j hks]
  (repeat' split) <;> first | rfl | (exfalso; simp_all [cMay, cSaid]; done) | (exfalso; simp_all [cMay, cSaid]; omega) | (exfalso; simp [cMay, cSaid] at *; omega) | (simp_all [escB, ub]; done)
theorem tx_w4 {s : ByteArray} {k : Nat} (out : List UInt8) (j : Nat) (hks : k < s.size) (h1 : (bt s k == 10) = false) (h2 : (bt s k == 34) = false) (h3 : cMay (bt s k) = true) (h4 : (bt s k == 9) = true) : textL (sfx s k) out j = ⟨3, [], 0, 0, 13, j⟩ := by
  rw [tx_all out j hks]
  (repeat' split) <;> first | rfl | (exfalso; simp_all [cMay, cSaid]; done) | (exfalso; simp_all [cMay, cSaid]; omega) | (exfalso; simp [cMay, cSaid] at *; omega) | (simp_all [escB, ub]; done)
theorem tx_w5 {s : ByteArray} {k : Nat} (out : List UInt8) (j : Nat) (hks : k < s.size) (h1 : (bt s k == 10) = false) (h2 : (bt s k == 34) = false) (h3 : cMay (bt s k) = true) (h4 : (bt s k == 9) = false) (h5 : (bt s k != 92) = true) : textL (sfx s k) out j = textL (sfx s (k + 1)) (out ++ [ub s k]) (j + 1) := by
  rw [tx_all out j hks]
  (repeat' split) <;> first | rfl | (exfalso; simp_all [cMay, cSaid]; done) | (exfalso; simp_all [cMay, cSaid]; omega) | (exfalso; simp [cMay, cSaid] at *; omega) | (simp_all [escB, ub]; done)
theorem tx_w6 {s : ByteArray} {k : Nat} (out : List UInt8) (j : Nat) (hks : k < s.size) (h1 : (bt s k == 10) = false) (h2 : (bt s k == 34) = false) (h3 : cMay (bt s k) = true) (h4 : (bt s k == 9) = false) (h5 : (bt s k != 92) = false) (h6 : bt s (k + 1) = 110) : textL (sfx s k) out j = textL (sfx s (k + 2)) (out ++ [10]) (j + 2) := by
  rw [tx_all out j hks]
  (repeat' split) <;> first | rfl | (exfalso; simp_all [cMay, cSaid]; done) | (exfalso; simp_all [cMay, cSaid]; omega) | (exfalso; simp [cMay, cSaid] at *; omega) | (simp_all [escB, ub]; done)
theorem tx_w7 {s : ByteArray} {k : Nat} (out : List UInt8) (j : Nat) (hks : k < s.size) (h1 : (bt s k == 10) = false) (h2 : (bt s k == 34) = false) (h3 : cMay (bt s k) = true) (h4 : (bt s k == 9) = false) (h5 : (bt s k != 92) = false) (h6 : ¬ bt s (k + 1) = 110) (h7 : bt s (k + 1) = 34) : textL (sfx s k) out j = textL (sfx s (k + 2)) (out ++ [ub s (k + 1)]) (j + 2) := by
  rw [tx_all out j hks]
  (repeat' split) <;> first | rfl | (exfalso; simp_all [cMay, cSaid]; done) | (exfalso; simp_all [cMay, cSaid]; omega) | (exfalso; simp [cMay, cSaid] at *; omega) | (simp_all [escB, ub]; done)
theorem tx_w8 {s : ByteArray} {k : Nat} (out : List UInt8) (j : Nat) (hks : k < s.size) (h1 : (bt s k == 10) = false) (h2 : (bt s k == 34) = false) (h3 : cMay (bt s k) = true) (h4 : (bt s k == 9) = false) (h5 : (bt s k != 92) = false) (hk2 : (k : Int) + 1 < (s.size : Int)) (h8 : (s.size : Int) ≤ (k : Int) + 1 ∨ ((bt s (k + 1) != 110) = true ∧ (bt s (k + 1) != 34) = true) ∧ (bt s (k + 1) != 92) = true) : textL (sfx s k) out j = ⟨3, [], 0, 0, 4, j⟩ := by
  rw [tx_all out j hks]
  (repeat' split) <;> first | rfl | (exfalso; simp_all [cMay, cSaid]; done) | (exfalso; simp_all [cMay, cSaid]; omega) | (exfalso; simp [cMay, cSaid] at *; omega) | (simp_all [escB, ub]; done)
theorem tx_w9 {s : ByteArray} {k : Nat} (out : List UInt8) (j : Nat) (hks : k < s.size) (h1 : (bt s k == 10) = false) (h2 : (bt s k == 34) = false) (h3 : cMay (bt s k) = true) (h4 : (bt s k == 9) = false) (h5 : (bt s k != 92) = false) (h6 : ¬ bt s (k + 1) = 110) (h7 : ¬ bt s (k + 1) = 34) (h8 : (k : Int) + 1 < (s.size : Int) ∧ (((bt s (k + 1) != 110) = false ∨ (bt s (k + 1) != 34) = false) ∨ (bt s (k + 1) != 92) = false)) : textL (sfx s k) out j = textL (sfx s (k + 2)) (out ++ [ub s (k + 1)]) (j + 2) := by
  rw [tx_all out j hks]
  (repeat' split) <;> first | rfl | (exfalso; simp_all [cMay, cSaid]; done) | (exfalso; simp_all [cMay, cSaid]; omega) | (exfalso; simp [cMay, cSaid] at *; omega) | (simp_all [escB, ub]; done)
theorem tx_w10 {s : ByteArray} {k : Nat} (out : List UInt8) (j : Nat) (hks : k < s.size) (h1 : (bt s k == 10) = false) (h2 : (bt s k == 34) = false) (h3 : cMay (bt s k) = true) (h4 : (bt s k == 9) = false) (h5 : (bt s k != 92) = false) (h8 : (s.size : Int) ≤ (k : Int) + 1) : textL (sfx s k) out j = ⟨3, [], 0, 0, 4, j⟩ := by
  have hz := bt_end s (k := k + 1) (by omega)
  rw [tx_all out j hks]
  (repeat' split) <;> first | rfl | (exfalso; simp_all [cMay, cSaid]; done) | (exfalso; simp_all [cMay, cSaid]; omega) | (exfalso; simp [cMay, cSaid] at *; omega) | (simp_all [escB, ub]; done)
theorem tx_w11 {s : ByteArray} {k : Nat} (out : List UInt8) (j : Nat) (hks : k < s.size) (h1 : (bt s k == 10) = false) (h2 : (bt s k == 34) = false) (h3 : ¬ cMay (bt s k) = true) : textL (sfx s k) out j = ⟨3, [], 0, 0, 13, j⟩ := by
  rw [tx_all out j hks]
  (repeat' split) <;> first | rfl | (exfalso; simp_all [cMay, cSaid]; done) | (exfalso; simp_all [cMay, cSaid]; omega) | (exfalso; simp [cMay, cSaid] at *; omega) | (simp_all [escB, ub]; done)
theorem mkB_snoc (l : List UInt8) (s : ByteArray) (k : Nat) (h : k < s.size) : mkB l ++ s.extract k (k + 1) = mkB (l ++ [ub s k]) := by
  rw [ext_sfx]
  obtain ⟨b, hb, hv⟩ := sfx_cons h
  rw [hb]
  have : ub s k = b := by rw [ub, ub_iv hv]
  rw [this]
  apply ByteArray.ext
  simp [mkB]

set_option maxRecDepth 100000 in
set_option maxHeartbeats 4000000 in
theorem refText9 (s : ByteArray) (i : Nat) (w : World) (hi : i < s.size) (hs : s.size ≤ 1000000) :
    Calls Try.prog 44 #[.string s, .int .i64 i] w fun e w' => e = .returned (textR i (textL (sfx s (i + 1)) [] 1)) ∧ w = w' := by
  have hb := get_bt s
  obtain ⟨T, hT⟩ : ∃ T, textL (sfx s (i + 1)) [] 1 = T := ⟨_, rfl⟩
  have HT0 : Hid (textL (sfx s (i + 1)) [] (i + 1 - i) = T) := Lib.hid (by rw [← hT, Nat.add_sub_cancel_left])
  rw [hT]
  clear hT
  go_enter Try.func44, Try.ntmps44
  go_wp2
  go_loop [8, 9] (fun o p => ∃ (k : Nat) (out : List UInt8), i < k ∧ k ≤ s.size ∧ out.length ≤ k ∧ o = .string (mkB out) ∧ p = .int .i64 k ∧ Hid (textL (sfx s k) out (k - i) = T)) (fun _ p => s.size - (intOf p).toNat)
  case atStart => exact ⟨i + 1, [], by omega, by omega, by simp, rfl, by go_num, HT0⟩
  case round =>
    obtain ⟨k, out, hik, hk, hol, rfl, rfl, hI⟩ := hrel
    by_cases hks : k < s.size
    · have hE := bt_end s (k := k + 1)
      have HE := Lib.hid hE
      have hsz : (mkB out).size = out.length := mkB_size _
      clear hE
      go_wp2_with (first | (go_at_call 43; refine (refMay _ _).mono ?_; rintro e w' ⟨rfl, rfl⟩))
      all_goals
        have hT := hI.out
        first
          | (rw [tx_w1 out (k - i) hks (by assumption)] at hT; refine bodyPost_ret (results_tmp4 rfl _ _ _) rfl ⟨?_, rfl⟩; rw [← hT]; first | (simp [textR, tx2]; done) | (simp [textR, tx2]; omega))
          | (rw [tx_w2 out (k - i) hks (by assumption) (by assumption) (by assumption)] at hT; refine bodyPost_ret (results_tmp4 rfl _ _ _) rfl ⟨?_, rfl⟩; rw [← hT]; first | (simp [textR, tx2]; done) | (simp [textR, tx2]; omega))
          | (rw [tx_w3 out (k - i) hks (by assumption) (by assumption) (by assumption)] at hT; refine bodyPost_ret (results_tmp4 rfl _ _ _) rfl ⟨?_, rfl⟩; rw [← hT]; first | (simp [textR, tx2]; done) | (simp [textR, tx2]; omega))
          | (rw [tx_w4 out (k - i) hks (by assumption) (by assumption) (by assumption) (by assumption)] at hT; refine bodyPost_ret (results_tmp4 rfl _ _ _) rfl ⟨?_, rfl⟩; rw [← hT]; first | (simp [textR, tx2]; done) | (simp [textR, tx2]; omega))
          | (rw [tx_w5 out (k - i) hks (by assumption) (by assumption) (by assumption) (by assumption) (by assumption)] at hT
             go_round
             case rel =>
               refine ⟨k + 1, out ++ [ub s k], by omega, by omega, by simp; omega, congrArg Value.string (mkB_snoc out s k hks), ?_, Lib.hid ?_⟩
               · go_num
               · rw [← hT, show k + 1 - i = k - i + 1 by omega]
             case measure => simp [intOf]; omega)
          | (rw [tx_w6 out (k - i) hks (by assumption) (by assumption) (by assumption) (by assumption) (by assumption) (by assumption)] at hT
             go_round
             case rel =>
               refine ⟨k + 2, out ++ [10], by omega, by omega, by simp; omega, congrArg Value.string (mkB_app out [10]), ?_, Lib.hid ?_⟩
               · go_num
               · rw [← hT, show k + 2 - i = k - i + 2 by omega]
             case measure => simp [intOf]; omega)
          | (rw [tx_w7 out (k - i) hks (by assumption) (by assumption) (by assumption) (by assumption) (by assumption) (by assumption) (by assumption)] at hT
             go_round
             case rel =>
               refine ⟨k + 2, out ++ [ub s (k + 1)], by omega, by omega, by simp; omega, congrArg Value.string (mkB_snoc out s (k + 1) (by omega)), ?_, Lib.hid ?_⟩
               · go_num
               · rw [← hT, show k + 2 - i = k - i + 2 by omega]
             case measure => simp [intOf]; omega)
          | (rw [tx_w8 out (k - i) hks (by assumption) (by assumption) (by assumption) (by assumption) (by assumption) (by assumption) (by assumption)] at hT; refine bodyPost_ret (results_tmp4 rfl _ _ _) rfl ⟨?_, rfl⟩; rw [← hT]; first | (simp [textR, tx2]; done) | (simp [textR, tx2]; omega))
          | (rw [tx_w9 out (k - i) hks (by assumption) (by assumption) (by assumption) (by assumption) (by assumption) (by assumption) (by assumption) (by assumption)] at hT
             go_round
             case rel =>
               refine ⟨k + 2, out ++ [ub s (k + 1)], by omega, by omega, by simp; omega, congrArg Value.string (mkB_snoc out s (k + 1) (by omega)), ?_, Lib.hid ?_⟩
               · go_num
               · rw [← hT, show k + 2 - i = k - i + 2 by omega]
             case measure => simp [intOf]; omega)
          | (rw [tx_w10 out (k - i) hks (by assumption) (by assumption) (by assumption) (by assumption) (by assumption) (by assumption)] at hT; refine bodyPost_ret (results_tmp4 rfl _ _ _) rfl ⟨?_, rfl⟩; rw [← hT]; first | (simp [textR, tx2]; done) | (simp [textR, tx2]; omega))
          | (rw [tx_w11 out (k - i) hks (by assumption) (by assumption) (by assumption)] at hT; refine bodyPost_ret (results_tmp4 rfl _ _ _) rfl ⟨?_, rfl⟩; rw [← hT]; first | (simp [textR, tx2]; done) | (simp [textR, tx2]; omega))
    · have hT := hI.out
      rw [tx_end out _ (by omega)] at hT
      go_wp2
      refine bodyPost_ret (results_tmp4 rfl _ _ _) rfl ⟨?_, rfl⟩
      rw [← hT]
      simp [textR, tx2]
end Go.Proofs.Ytmelilppeikdiaa
