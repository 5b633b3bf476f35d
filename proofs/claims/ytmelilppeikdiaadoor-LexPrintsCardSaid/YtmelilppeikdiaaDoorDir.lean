/- Contracts of slices.Index on texts and of lex.Dir. -/
import Derived.Test.YtmelilppeikdiaaDoorKey2
import Derived.BigQuiet
import Derived.Deep.QuietTactic
namespace Go.Proofs.YtmelilppeikdiaaDoor
open Go.RowKit Go.PlainAid

theorem SL.lit (w : World) (cs : Array Value) (e : TypeId) (c n : Nat) (hn : cs.size = n) (hm : n ≤ maxLen) : SL (w.alloc (.cells cs e)) (.slice (some ⟨w.heap.size, 0, none⟩) n c) cs.toList := by
  subst hn
  refine ⟨by simpa using hm, .inr ⟨w.heap.size, 0, c, by simp, by rw [World.size_alloc]; omega, fun i h => ?_⟩⟩
  have h' : i < cs.size := by simpa using h
  rw [Nat.zero_add, World.cell?_alloc_mark]
  simp [h']
theorem one_alloc (w : World) (o : Obj) : Below w.heap.size w (w.alloc o) := (Below.refl _ _).alloc (Nat.le_refl _) _
theorem below_drewN {B : Nat} {a w : World} (h : Below B a w) (n : Nat) : Below B a (w.drewN n) := h.trans ⟨rfl, rfl, rfl, Nat.le_refl _, fun _ _ => rfl⟩

/-- The place of a text in a list, counted from n; -1: none. -/
def ixS : List ByteArray → ByteArray → Nat → Int
  | [], _, _ => -1
  | x :: t, s, n => if x = s then (n : Int) else ixS t s (n + 1)

theorem ixS_idxW : ∀ (l : List ByteArray) (s : ByteArray) (n : Nat), ixS l s n = match idxW (l.map fun b => b.data.toList) s.data.toList n with | some k => (k : Int) | none => -1
  | [], _, _ => rfl
  | x :: t, s, n => by
    have hx : (x.data.toList = s.data.toList) ↔ x = s := ⟨fun h => ByteArray.ext (Array.toList_inj.1 h), fun h => by rw [h]⟩
    show (if x = s then (n : Int) else ixS t s (n + 1)) = match (if x.data.toList = s.data.toList then some n else idxW (t.map fun b => b.data.toList) s.data.toList (n + 1)) with | some k => (k : Int) | none => -1
    by_cases h : x = s
    · rw [if_pos h, if_pos (hx.2 h)]
    · rw [if_neg h, if_neg (fun e => h (hx.1 e))]; exact ixS_idxW t s (n + 1)

theorem beq_ba (a b : ByteArray) : (a.toList == b.toList) = decide (a = b) := by
  rw [Lib.toList_data, Lib.toList_data]
  by_cases h : a = b
  · simp [h]
  · simp only [h, decide_false]
    exact beq_eq_false_iff_ne.2 fun e => h (ByteArray.ext (Array.toList_inj.1 e))

theorem slIndex (vl : Value) (l : List ByteArray) (s : ByteArray) (w : World) (ha : SL w vl (l.map Value.string)) :
    Calls Tryd.prog 20 #[vl, .string s] w fun e w' => e = .returned (.int .i64 (ixS l s 0)) ∧ ∃ n, w' = w.drewN n := by
  have hm := ha.1
  unfold maxLen at hm
  rcases ha.2 with ⟨hl, a, c, rfl, _⟩ | ⟨b, off, c, rfl, hlt, hc⟩
  · have hl' : l = [] := by simpa using hl
    subst hl'
    go_enter Tryd.func20, Tryd.ntmps20
    go_wp2
    go_rounds 1
    go_ret
    exact ⟨rfl, 0, rfl⟩
  · have HC : Hid (∀ i (h : i < l.length), w.cell? ⟨b, off + i, none⟩ = some (.string l[i])) := Lib.hid (fun i h => by rw [hc i (by simpa using h)]; simp)
    clear hc ha
    rw [List.length_map] at *
    obtain ⟨L, hL⟩ : ∃ L, l.length = L := ⟨_, rfl⟩
    rw [hL] at hm
    rw [hL]
    have HL := Lib.hid hL
    clear hL
    go_enter Tryd.func20, Tryd.ntmps20
    go_wp2
    go_loopw [8] (fun i wr => ∃ k n : Nat, k ≤ L ∧ i = .int .i64 k ∧ wr = w.drewN n ∧ Hid (ixS (l.drop k) s k = ixS l s 0)) (fun i _ => L - (intOf i).toNat)
    case atStart => exact ⟨0, 0, Nat.zero_le _, rfl, rfl, Lib.hid rfl⟩
    case round =>
      obtain ⟨k, n, hk, rfl, rfl, hI⟩ := hrel
      by_cases hlt3 : k < L
      · have hkl : k < l.length := by have := HL.out; omega
        have h1 := HC.out k hkl
        have hst : Hid (ixS (l.drop k) s k = if l[k] = s then (k : Int) else ixS (l.drop (k + 1)) s (k + 1)) := Lib.hid (by rw [List.drop_eq_getElem_cons hkl]; rfl)
        generalize l[k] = x at h1 hst
        by_cases hx : x = s
        · have he : (s.toList == x.toList) = true := by rw [beq_ba, hx]; simp
          have H := Lib.hid (hI.out.symm.trans (hst.out.trans (if_pos hx)))
          clear hx hst hI
          go_wp2
          go_ret
          exact ⟨ret_i (by rw [H.out]), _, rfl⟩
        · have he : (s.toList == x.toList) = false := by rw [beq_ba]; simp; exact fun e => hx e.symm
          have H := Lib.hid ((hst.out.trans (if_neg hx)).symm.trans hI.out)
          clear hx hst hI
          go_wp2
          go_roundw
          case rel => exact ⟨k + 1, _, by omega, by go_num, rfl, H⟩
          case measure => simp [intOf]; omega
      · have hI' : Hid (ixS l s 0 = -1) := Lib.hid (by rw [← hI.out, List.drop_eq_nil_of_le (by have := HL.out; omega)]; rfl)
        clear hI
        go_wp2
        go_ret
        exact ⟨ret_i (by rw [hI'.out]), n, rfl⟩

def dirsB : List ByteArray := [⟨#[110, 111, 114, 116, 104]⟩, ⟨#[115, 111, 117, 116, 104]⟩, ⟨#[101, 97, 115, 116]⟩, ⟨#[119, 101, 115, 116]⟩, ⟨#[110, 111, 114, 116, 104, 101, 97, 115, 116]⟩, ⟨#[110, 111, 114, 116, 104, 119, 101, 115, 116]⟩, ⟨#[115, 111, 117, 116, 104, 101, 97, 115, 116]⟩, ⟨#[115, 111, 117, 116, 104, 119, 101, 115, 116]⟩, ⟨#[117, 112]⟩, ⟨#[100, 111, 119, 110]⟩, ⟨#[105, 110]⟩, ⟨#[111, 117, 116]⟩]

theorem dirL_ix (s : ByteArray) : dirL s.data.toList = ixS dirsB s 0 + 1 ∧ -1 ≤ ixS dirsB s 0 ∧ ixS dirsB s 0 ≤ 1000 := by
  have hd : (dirsB.map fun b => b.data.toList) = dirsW := by decide +kernel
  have h1 := ixS_idxW dirsB s 0
  rw [hd] at h1
  cases h : holdsB (mkB dirsL) s with
  | true =>
    have hb := dir_some h
    unfold holdsB at h
    change (idxW dirsW s.data.toList 0).isSome = true at h
    obtain ⟨n, hn⟩ := Option.isSome_iff_exists.1 h
    have hN : holdsN (mkB dirsL) s = n := by
      unfold holdsN
      change (match idxW dirsW s.data.toList 0 with | some m => ((m : Nat) : Int) | none => 0) = (n : Int)
      rw [hn]
    rw [hn] at h1
    rw [hN] at hb
    have hlen : dirsW.length = 12 := by decide +kernel
    have hq : ∀ (l : List (List UInt8)) (x : List UInt8) (n k : Nat), idxW l x n = some k → k ≤ n + l.length := by
      intro l
      induction l with
      | nil => intro x n k h; simp [idxW] at h
      | cons a t ih =>
        intro x n k h
        rw [idxW] at h
        by_cases e : a = x
        · rw [if_pos e] at h; simp at h; simp; omega
        · rw [if_neg e] at h; have := ih _ _ _ h; simp; omega
    have := hq _ _ _ _ hn
    simp only at h1
    rw [h1]
    exact ⟨hb.1, by omega, by omega⟩
  | false =>
    have hb := dir_none h
    unfold holdsB at h
    change (idxW dirsW s.data.toList 0).isSome = false at h
    rw [Option.isSome_eq_false_iff, Option.isNone_iff_eq_none] at h
    rw [h] at h1
    simp only at h1
    rw [h1, hb]
    decide

theorem lexDir (s : ByteArray) (w : World) : Calls Tryd.prog 11 #[.string s] w fun e w' => e = .returned (.int .i64 (dirL s.data.toList)) ∧ Below w.heap.size w w' := by
  have h := dirL_ix s
  have H := Lib.hid h.1
  have hb := h.2
  clear h
  go_enter Tryd.func11, Tryd.ntmps11
  go_wp2_with fail
  refine (slIndex _ dirsB s _ (SL.lit _ _ _ _ _ rfl (by decide))).mono ?_
  rintro e w' ⟨rfl, n, rfl⟩
  go_wp2_with fail
  go_ret
  exact ⟨ret_i (by rw [H.out]), below_drewN (by go_grown) n⟩
end Go.Proofs.YtmelilppeikdiaaDoor
