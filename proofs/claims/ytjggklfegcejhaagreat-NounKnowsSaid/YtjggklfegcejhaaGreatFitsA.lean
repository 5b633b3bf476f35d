/- Contracts of clewref19's small functions, one-sided: what true says. -/
import Derived.Test.YtjggklfegcejhaaGreatTab
import Derived.Test.YtjggklfegcejhaaGreatLetter
import Derived.BigQuiet
import Derived.Deep.QuietTactic
namespace Go.Proofs.YtjggklfegcejhaaGreat
open Go.RowKit Go.PlainAid
set_option linter.unusedVariables false
set_option linter.unusedSimpArgs false

theorem bl_then {a b c : World} (h : Below a.heap.size a b) (k : Below b.heap.size b c) : Below a.heap.size a c := h.trans (k.mono h.size)
/-- It answers true just where p. -/
def IffB (p : Prop) (w : World) (e : Ending) (w' : World) : Prop := ∃ b : Bool, e = .returned (.bool b) ∧ (b = true ↔ p) ∧ w = w'
/-- Where it answers true, p; it makes nothing. -/
def OneB (p : Prop) (w : World) (e : Ending) (w' : World) : Prop := ∃ b : Bool, e = .returned (.bool b) ∧ (b = true → p) ∧ w = w'
/-- Where it answers true, p; it may make memory. -/
def OneW (p : Prop) (w : World) (e : Ending) (w' : World) : Prop := ∃ b : Bool, e = .returned (.bool b) ∧ (b = true → p) ∧ Below w.heap.size w w'
theorem OneB.f {p : Prop} {w : World} : OneB p w (.returned (.bool false)) w := ⟨false, rfl, fun h => Bool.noConfusion h, rfl⟩
theorem OneB.t {p : Prop} {w : World} (h : p) : OneB p w (.returned (.bool true)) w := ⟨true, rfl, fun _ => h, rfl⟩
theorem OneW.f {p : Prop} {w w' : World} (h : Below w.heap.size w w') : OneW p w (.returned (.bool false)) w' := ⟨false, rfl, fun hb => Bool.noConfusion hb, h⟩
theorem OneW.t {p : Prop} {w w' : World} (h : Below w.heap.size w w') (hp : p) : OneW p w (.returned (.bool true)) w' := ⟨true, rfl, fun _ => hp, h⟩

/-- Where it answers true just where p; it may make memory. -/
def IffW (p : Prop) (w : World) (e : Ending) (w' : World) : Prop := ∃ b : Bool, e = .returned (.bool b) ∧ (b = true ↔ p) ∧ Below w.heap.size w w'
/-- The truth of p, as a Bool. -/
noncomputable def pB (p : Prop) : Bool := @decide p (Classical.propDecidable p)
theorem pB_iff {p : Prop} : pB p = true ↔ p := by unfold pB; exact @decide_eq_true_iff p (Classical.propDecidable p)
theorem pB_eq {p : Prop} {b : Bool} (h : b = true ↔ p) : b = pB p := by rw [Bool.eq_iff_iff, h, pB_iff]
theorem IffB.val {p : Prop} {w w' : World} {e : Ending} (h : IffB p w e w') : e = .returned (.bool (pB p)) ∧ w = w' := by
  obtain ⟨b, h1, h2, h3⟩ := h
  exact ⟨by rw [h1, pB_eq h2], h3⟩
theorem IffW.val {p : Prop} {w w' : World} {e : Ending} (h : IffW p w e w') : e = .returned (.bool (pB p)) ∧ Below w.heap.size w w' := by
  obtain ⟨b, h1, h2, h3⟩ := h
  exact ⟨by rw [h1, pB_eq h2], h3⟩
theorem IffB.f {p : Prop} {w : World} (h : ¬ p) : IffB p w (.returned (.bool false)) w := ⟨false, rfl, ⟨fun h => Bool.noConfusion h, fun k => absurd k h⟩, rfl⟩
theorem IffB.t {p : Prop} {w : World} (h : p) : IffB p w (.returned (.bool true)) w := ⟨true, rfl, ⟨fun _ => h, fun _ => rfl⟩, rfl⟩
theorem IffW.f {p : Prop} {w w' : World} (h : Below w.heap.size w w') (hp : ¬ p) : IffW p w (.returned (.bool false)) w' := ⟨false, rfl, ⟨fun h => Bool.noConfusion h, fun k => absurd k hp⟩, h⟩
theorem IffW.t {p : Prop} {w w' : World} (h : Below w.heap.size w w') (hp : p) : IffW p w (.returned (.bool true)) w' := ⟨true, rfl, ⟨fun _ => hp, fun _ => rfl⟩, h⟩
/-- A value. -/
def Val16 (n : Int) : Prop := -32768 ≤ n ∧ n ≤ 32767

theorem refFrom (n lo hi : Int) (w : World) : Calls Tryz.prog 56 #[.int .i64 n, .int .i64 lo, .int .i64 hi] w (IffB (lo ≤ n ∧ n ≤ hi) w) := by
  go_enter Tryz.func56, Tryz.ntmps56
  go_wp2
  · go_ret
    exact ⟨_, rfl, by simp; omega, rfl⟩
  · go_ret
    exact ⟨_, rfl, by simp; omega, rfl⟩
theorem refIs (n : Int) (w : World) : Calls Tryz.prog 55 #[.int .i64 n] w (IffB (Val16 n) w) := by
  unfold Val16
  go_enter Tryz.func55, Tryz.ntmps55
  go_wp2
  · go_ret
    exact ⟨_, rfl, by simp; omega, rfl⟩
  · go_ret
    exact ⟨_, rfl, by simp; omega, rfl⟩
/-- A list of ints: where it lies. -/
theorem int_open {w : World} {v : Value} {l : List Int} (h : Reads Cd.is w v l) (hn : 0 < l.length) :
    ∃ b off cap, v = .slice (some ⟨b, off, none⟩) l.length cap ∧ l.length ≤ cap ∧ b < w.heap.size ∧ ∀ i (hi : i < l.length), w.cell? ⟨b, off + i, none⟩ = some (.int .i64 l[i]) := by
  obtain ⟨b, off, cap, h1, h2, h3, h4⟩ := h.q.open hn
  refine ⟨b, off, cap, h1, h2, h3, fun i hi => ?_⟩
  obtain ⟨row, r1, ⟨r2, r4⟩, r3⟩ := h4 i hi
  subst r2
  have := r3 0 (by decide)
  rw [show Cd.i.k = 1 from rfl, Nat.mul_one, Nat.add_zero] at this
  exact this
theorem str_open {w : World} {v : Value} {l : List (List UInt8)} (h : Reads Cd.ss w v l) (hn : 0 < l.length) :
    ∃ b off cap, v = .slice (some ⟨b, off, none⟩) l.length cap ∧ l.length ≤ cap ∧ b < w.heap.size ∧ ∀ i (hi : i < l.length), l[i].length ≤ maxLen ∧ w.cell? ⟨b, off + i, none⟩ = some (.string ⟨l[i].toArray⟩) := by
  obtain ⟨b, off, cap, h1, h2, h3, h4⟩ := h.q.open hn
  refine ⟨b, off, cap, h1, h2, h3, fun i hi => ?_⟩
  obtain ⟨row, r1, ⟨r2, r4⟩, r3⟩ := h4 i hi
  subst r2
  refine ⟨r4, ?_⟩
  have := r3 0 (by decide)
  rw [show Cd.str.k = 1 from rfl, Nat.mul_one, Nat.add_zero] at this
  exact this
theorem take_all {α : Type} {l : List α} {p : Nat} {q : α → Prop} (hlt : p < l.length) (h : ∀ x ∈ l.take p, q x) (hx : q l[p]) : ∀ x ∈ l.take (p + 1), q x := by
  intro x hm
  rw [List.take_succ_eq_append_getElem hlt] at hm
  rcases List.mem_append.1 hm with hm | hm
  · exact h x hm
  · rw [List.mem_singleton.1 hm]; exact hx
theorem take_full {α : Type} {l : List α} {p : Nat} {q : α → Prop} (hp : ¬ p < l.length) (h : ∀ x ∈ l.take p, q x) : ∀ x ∈ l, q x := fun x hx => h x (by rw [List.take_of_length_le (by omega)]; exact hx)
set_option maxRecDepth 100000 in
theorem refValues (v : Value) (l : List Int) (w : World) (hv : Reads Cd.is w v l) : Calls Tryz.prog 52 #[v] w (IffB (∀ n ∈ l, Val16 n) w) := by
  obtain ⟨a0, c0, hv0, hc0, hm0⟩ := hv.q.len
  subst hv0
  unfold maxLen at hm0
  have HV := Lib.hid hv
  clear hv
  go_enter Tryz.func52, Tryz.ntmps52
  go_wp2
  go_loop [3] (fun i => ∃ (p : Nat), i = .int .i64 p ∧ p ≤ l.length ∧ Hid (∀ n ∈ l.take p, Val16 n)) (fun i => l.length - (intOf i).toNat)
  case atStart => exact ⟨0, rfl, Nat.zero_le _, Lib.hid (fun n h => by simp at h)⟩
  case round =>
    obtain ⟨p, rfl, hpl, HI⟩ := hrel
    by_cases hlt : p < l.length
    · obtain ⟨b, off, cap, hv, hcap, hblt, hcell⟩ := int_open HV.out (by omega)
      have hac : a0 = some ⟨b, off, none⟩ := by simp at hv; exact hv.1
      subst hac
      have e0 := hcell p hlt
      have HM := Lib.hid (List.getElem_mem hlt)
      have HT : Hid (Val16 l[p] → ∀ x ∈ l.take (p + 1), Val16 x) := Lib.hid (take_all hlt HI.out)
      generalize l[p] = n at e0 HM HT
      clear hcell hv
      go_wp2_with (go_at_call 55; refine (refIs n _).mono ?_; rintro e w' ⟨b1, rfl, hb1, rfl⟩; have HB1 := Lib.hid hb1; clear hb1)
      · go_ret
        exact IffB.f fun h => by have := HB1.out.2 (h n HM.out); simp_all
      · go_round
        case rel => exact ⟨p + 1, by go_num, by omega, Lib.hid (HT.out (HB1.out.1 (by simp_all)))⟩
        case measure => simp [intOf]; omega
    · go_wp2
      go_ret
      exact IffB.t (take_full hlt HI.out)
set_option maxRecDepth 100000 in
theorem refIsText (s : ByteArray) (w : World) (hs : s.size ≤ maxLen) : Calls Tryz.prog 80 #[.string s] w (OneB (s.size ≤ 1024) w) := by
  unfold maxLen at hs
  go_enter Tryz.func80, Tryz.ntmps80
  go_wp2
  go_loop [3] (fun i => ∃ (p : Nat), i = .int .i64 p ∧ p ≤ s.size) (fun i => s.size - (intOf i).toNat)
  case atStart => exact ⟨0, rfl, Nat.zero_le _⟩
  case round =>
    obtain ⟨p, rfl, hpl⟩ := hrel
    by_cases hlt : p < s.size
    · go_wp2
      all_goals first
        | (go_ret; exact OneB.f)
        | (go_round
           case rel => exact ⟨p + 1, by go_num, by omega⟩
           case measure => simp [intOf]; omega)
    · go_wp2
      go_ret
      exact ⟨_, rfl, fun h => by simp at h; omega, rfl⟩
theorem ref_Row19 (c : Int) (w : World) : Calls Tryz.prog 137 #[.int .u8 c] w fun e w' => e = .returned (.bool (rowB c)) ∧ w = w' := by
  cases h1 : smallB c <;> cases h2 : greatB c <;> cases h3 : digitB c
  all_goals
    go_enter Tryz.func137, Tryz.ntmps137
    go_wp2_with (first
      | (go_at_call 135; refine (ref_small _ _).mono ?_; rintro e w' ⟨rfl, rfl⟩)
      | (go_at_call 100; refine (ref_great _ _).mono ?_; rintro e w' ⟨rfl, rfl⟩)
      | (go_at_call 136; refine (ref_digit _ _).mono ?_; rintro e w' ⟨rfl, rfl⟩))
  all_goals
    go_ret
    exact ⟨ret_b (by simp [rowB, *]), rfl⟩
/-- A byte of a word. -/
def WordB (c : UInt8) : Prop := rowB (c.toNat : Int) = true ∧ greatB (c.toNat : Int) = false
/-- A dictionary word. -/
def WordOk (l : List UInt8) : Prop := 1 ≤ l.length ∧ l.length ≤ 9 ∧ (∀ c ∈ l.head?, smallB (c.toNat : Int) = true ∨ digitB (c.toNat : Int) = true) ∧ ∀ c ∈ l, WordB c
theorem head_at (s : ByteArray) (h : 0 < s.size) : s.data.toList.head? = some s[0] := by
  have hl : 0 < s.data.toList.length := by simpa using h
  rw [List.head?_eq_getElem?, List.getElem?_eq_getElem hl]; rfl
set_option maxRecDepth 100000 in
set_option maxHeartbeats 4000000 in
theorem refIsWord (s : ByteArray) (w : World) (hs : s.size ≤ maxLen) : Calls Tryz.prog 120 #[.string s] w (IffB (WordOk s.data.toList) w) := by
  unfold maxLen at hs
  have hz : s.data.toList.length = s.size := by simp
  by_cases h0 : 0 < s.size
  · by_cases h9 : s.size ≤ 9
    · have H1 := Lib.hid (fun w => ref_small ((s[0]'h0).toNat : Int) w)
      have H2 := Lib.hid (fun w => ref_digit ((s[0]'h0).toNat : Int) w)
      have HH : Hid (WordOk s.data.toList ↔ (smallB ((s[0]'h0).toNat : Int) = true ∨ digitB ((s[0]'h0).toNat : Int) = true) ∧ ∀ c ∈ s.data.toList, WordB c) := Lib.hid (by
        unfold WordOk
        rw [head_at s h0, hz]
        constructor
        · exact fun h => ⟨h.2.2.1 _ rfl, h.2.2.2⟩
        · exact fun h => ⟨h0, h9, fun c hc => by rw [← Option.some.inj hc]; exact h.1, h.2⟩)
      generalize smallB ((s[0]'h0).toNat : Int) = b1 at H1 HH
      generalize digitB ((s[0]'h0).toNat : Int) = b2 at H2 HH
      clear hz
      cases b1 <;> cases b2
      all_goals go_enter Tryz.func120, Tryz.ntmps120
      all_goals go_wp2_with (first
        | (go_at_call 135; refine (H1.out _).mono ?_; rintro e w' ⟨rfl, rfl⟩)
        | (go_at_call 136; refine (H2.out _).mono ?_; rintro e w' ⟨rfl, rfl⟩))
      all_goals first
        | (go_ret; exact IffB.f fun h => by have := (HH.out.1 h).1; simp at this)
        | skip
      all_goals
        go_loop [3] (fun i => ∃ (p : Nat), i = .int .i64 p ∧ p ≤ s.size ∧ Hid (∀ c ∈ s.data.toList.take p, WordB c)) (fun i => s.size - (intOf i).toNat)
        case atStart => exact ⟨0, rfl, Nat.zero_le _, Lib.hid (fun c h => by simp at h)⟩
        case round =>
          obtain ⟨p, rfl, hpl, HR⟩ := hrel
          by_cases hlt : p < s.size
          · have hl : p < s.data.toList.length := by simpa using hlt
            have HS : Hid (rowB ((s[p]'hlt).toNat : Int) = true ∧ greatB ((s[p]'hlt).toNat : Int) = false → ∀ c ∈ s.data.toList.take (p + 1), WordB c) := Lib.hid (fun h => take_all hl HR.out h)
            have HN : Hid (¬ (rowB ((s[p]'hlt).toNat : Int) = true ∧ greatB ((s[p]'hlt).toNat : Int) = false) → ¬ WordOk s.data.toList) := Lib.hid (fun h k => h (k.2.2.2 _ (List.getElem_mem hl)))
            have H3 := Lib.hid (fun w => ref_Row19 ((s[p]'hlt).toNat : Int) w)
            have H4 := Lib.hid (fun w => ref_great ((s[p]'hlt).toNat : Int) w)
            generalize rowB ((s[p]'hlt).toNat : Int) = b3 at H3 HS HN
            generalize greatB ((s[p]'hlt).toNat : Int) = b4 at H4 HS HN
            clear hl
            cases b3 <;> cases b4
            all_goals go_wp2_with (first
              | (go_at_call 137; refine (H3.out _).mono ?_; rintro e w' ⟨rfl, rfl⟩)
              | (go_at_call 100; refine (H4.out _).mono ?_; rintro e w' ⟨rfl, rfl⟩))
            all_goals first
              | (go_ret; exact IffB.f (HN.out (by simp)))
              | (go_round
                 case rel => exact ⟨p + 1, by go_num, by omega, Lib.hid (HS.out (by simp))⟩
                 case measure => simp [intOf]; omega)
          · go_wp2
            go_ret
            exact IffB.t (HH.out.2 ⟨by simp, take_full (by simpa using hlt) HR.out⟩)
    · go_enter Tryz.func120, Tryz.ntmps120
      go_wp2
      go_ret
      exact IffB.f fun h => by have := h.2.1; omega
  · go_enter Tryz.func120, Tryz.ntmps120
    go_wp2
    go_ret
    exact IffB.f fun h => by have := h.1; omega
set_option maxRecDepth 100000 in
theorem refWords19 (v : Value) (l : List TxC) (n : Int) (w : World) (hv : Reads Cd.ss w v l) : Calls Tryz.prog 82 #[v, .int .i64 n] w (IffB ((∀ x ∈ l, WordOk x) ∧ (l.length : Int) ≤ n) w) := by
  obtain ⟨a0, c0, hv0, hc0, hm0⟩ := hv.q.len
  subst hv0
  unfold maxLen at hm0
  have HV := Lib.hid hv
  clear hv
  go_enter Tryz.func82, Tryz.ntmps82
  go_wp2
  go_loop [5] (fun i => ∃ (p : Nat), i = .int .i64 p ∧ p ≤ l.length ∧ Hid (∀ x ∈ l.take p, WordOk x)) (fun i => l.length - (intOf i).toNat)
  case atStart => exact ⟨0, rfl, Nat.zero_le _, Lib.hid (fun x h => by simp at h)⟩
  case round =>
    obtain ⟨p, rfl, hpl, HI⟩ := hrel
    by_cases hlt : p < l.length
    · obtain ⟨b, off, cap, hv, hcap, hblt, hcell⟩ := str_open HV.out (by omega)
      have hac : a0 = some ⟨b, off, none⟩ := by simp at hv; exact hv.1
      subst hac
      obtain ⟨hz, e0⟩ := hcell p hlt
      have HM := Lib.hid (List.getElem_mem hlt)
      have HT : Hid (WordOk l[p] → ∀ x ∈ l.take (p + 1), WordOk x) := Lib.hid (take_all hlt HI.out)
      generalize l[p] = n at e0 hz HT HM
      clear hcell hv
      go_wp2_with (go_at_call 120; refine (refIsWord ⟨n.toArray⟩ _ (by show n.toArray.size ≤ _; simpa using hz)).mono ?_; rintro e w' ⟨b1, rfl, hb1, rfl⟩; have HB1 := Lib.hid hb1; clear hb1)
      · go_ret
        exact IffB.f fun h => by have := HB1.out.2 (h.1 n HM.out); simp_all
      · go_round
        case rel => exact ⟨p + 1, by go_num, by omega, Lib.hid (HT.out (HB1.out.1 (by simp_all)))⟩
        case measure => simp [intOf]; omega
    · have hI := take_full hlt HI.out
      have HI2 := Lib.hid hI
      clear hI
      go_wp2
      go_ret
      exact ⟨_, rfl, by simp only [decide_eq_true_eq]; exact ⟨fun h => ⟨HI2.out, h⟩, fun h => h.2⟩, rfl⟩
end Go.Proofs.YtjggklfegcejhaaGreat
