/- The walk of the law NumTexts: it answers true. -/
import Derived.Test.YtmngomkkgibfmaaDoorNumText
namespace Go.Proofs.YtmngomkkgibfmaaDoor
open Go.RowKit Go.PlainAid Go.Lib

theorem tab_below {P : Program} {w w' : World} {name : String} {k : IntKind} {zs : List Int} (h : Lib.TabIs P w name k zs) (hb : Below w.heap.size w w') : Lib.TabIs P w' name k zs := by
  unfold Lib.TabIs at *
  cases hg : P.globalNamed name with
  | none => simp [World.var?, hg] at h
  | some g =>
    have hlt : g < w.heap.size := by
      unfold World.var? at h
      simp only [hg, Option.bind_some] at h
      rcases Nat.lt_or_ge g w.heap.size with h' | h'
      · exact h'
      · simp [Array.getElem?_eq_none h'] at h
    unfold World.var? at *
    simp only [hg, Option.bind_some] at *
    rw [hb.block g hlt]; exact h

theorem walkTexts (n u : Int) (w : World) (w0 : (Lit.int .i64 n).wf = true) (w1 : (Lit.int .u64 u).wf = true) (htab : Lib.TabIs Tryd.prog w "internal/strconv.uint64pow10" .u64 Lib.pow10Tab) :
    Calls Tryd.prog 3 #[.int .i64 n, .int .u64 u] w fun e w' => e = .returned (.bool true) ∧ Below w.heap.size w w' := by
  have hn := bounds_i64 w0
  have hu := bounds_u64 w1
  obtain ⟨m, rfl⟩ := Int.eq_ofNat_of_zero_le hu.1
  have HT := Lib.hid htab
  clear htab
  by_cases hr : -32768 ≤ n ∧ n ≤ 32767
  · have hp := parse_text n hr.1 hr.2
    have his : (n == wr n) = true := by rw [is_eq]; simp [hr]
    have hsz : (mk (itoa n)).size ≤ maxLen := by
      by_cases h : n < 0
      · have := itoa_len n.natAbs (by omega) (by omega)
        rw [show -((n.natAbs : Nat) : Int) = n by omega] at this
        unfold maxLen; omega
      · rw [itoa_pos n (by omega)]
        have := dec_len n.toNat (by omega)
        unfold maxLen; omega
    generalize hS : mk (itoa n) = S at hp hsz
    have HS := Lib.hid hS
    have hp1 := hp.1
    have hp2 := hp.2
    clear hS hp
    go_enter Tryd.func3, Tryd.ntmps3
    go_wp2_with fail
    refine (numText n _ hn.1 hn.2 HT.out).mono ?_
    rintro e w1 ⟨rfl, hb1⟩
    rw [HS.out]
    go_wp2_with fail
    refine (refText n _ hn.1 hn.2).mono ?_
    rintro e w' ⟨rfl, rfl⟩
    rw [HS.out]
    go_wp2_with fail
    refine (numDigits (m : Int) _ hu.1 hu.2 (tab_below HT.out hb1)).mono ?_
    rintro e w2 ⟨rfl, hb2⟩
    rw [Int.toNat_natCast]
    go_wp2_with fail
    refine (refDigits (m + 1) m _ (by omega) (by omega)).mono ?_
    rintro e w' ⟨rfl, rfl⟩
    go_wp2_with fail
    refine (refIs n _).mono ?_
    rintro e w' ⟨rfl, rfl⟩
    go_wp2_with fail
    have hb12 := hb1.trans (hb2.mono hb1.size)
    refine (numText n _ hn.1 hn.2 (tab_below HT.out hb12)).mono ?_
    rintro e w3 ⟨rfl, hb3⟩
    rw [HS.out]
    go_wp2_with fail
    refine (numParse S _ hsz).mono ?_
    rintro e w' ⟨rfl, rfl⟩
    rw [hp1, hp2]
    go_wp2_with fail
    refine (awake01 _).mono ?_
    rintro e w' ⟨rfl, rfl⟩
    go_wp2_with fail
    go_ret
    have hb123 := hb12.trans (hb3.mono hb12.size)
    have hz := hb123.size
    exact ⟨rfl, by go_grown⟩
  · have his : (n == wr n) = false := by rw [is_eq]; simp; omega
    generalize hS : mk (itoa n) = S
    have HS := Lib.hid hS
    clear hS hr
    go_enter Tryd.func3, Tryd.ntmps3
    go_wp2_with fail
    refine (numText n _ hn.1 hn.2 HT.out).mono ?_
    rintro e w1 ⟨rfl, hb1⟩
    rw [HS.out]
    go_wp2_with fail
    refine (refText n _ hn.1 hn.2).mono ?_
    rintro e w' ⟨rfl, rfl⟩
    rw [HS.out]
    go_wp2_with fail
    refine (numDigits (m : Int) _ hu.1 hu.2 (tab_below HT.out hb1)).mono ?_
    rintro e w2 ⟨rfl, hb2⟩
    rw [Int.toNat_natCast]
    go_wp2_with fail
    refine (refDigits (m + 1) m _ (by omega) (by omega)).mono ?_
    rintro e w' ⟨rfl, rfl⟩
    go_wp2_with fail
    refine (refIs n _).mono ?_
    rintro e w' ⟨rfl, rfl⟩
    go_wp2_with fail
    refine (awake01 _).mono ?_
    rintro e w' ⟨rfl, rfl⟩
    go_wp2_with fail
    go_ret
    have hb12 := hb1.trans (hb2.mono hb1.size)
    have hz := hb12.size
    exact ⟨rfl, by go_grown⟩
end Go.Proofs.YtmngomkkgibfmaaDoor
