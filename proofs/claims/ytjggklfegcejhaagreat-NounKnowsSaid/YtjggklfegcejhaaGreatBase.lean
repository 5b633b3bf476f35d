/- Small general lemmas of this claim: what a slice reads as, bytes in a block, what stays when only new memory is written. -/
import Derived.Test.YtjggklfegcejhaaGreatRows
import Derived.WalkKit
import Derived.WalkSpells
import Derived.WalkLawsBesides
import Derived.Lib.Hide
import Derived.Lib.Strings
import Derived.Handy
import Derived.PlainAid
import Derived.Laws.IdiomStrings
namespace Go.Proofs.YtjggklfegcejhaaGreat
open Go.RowKit Go.PlainAid

theorem ret_i {k : IntKind} {a b : Int} (h : a = b) : Ending.returned (.int k a) = .returned (.int k b) := by rw [h]
theorem ret_b {a b : Bool} (h : a = b) : Ending.returned (.bool a) = .returned (.bool b) := by rw [h]
theorem ret_s {a b : ByteArray} (h : a = b) : Ending.returned (.string a) = .returned (.string b) := by rw [h]
theorem ret_ii {k k' : IntKind} {a a' b b' : Int} (h : a = a') (h' : b = b') : Ending.returned (.tuple #[.int k a, .int k' b]) = .returned (.tuple #[.int k a', .int k' b']) := by rw [h, h']

theorem bcell {W w1 : World} {B : Nat} (hb : Below B W w1) : (∀ b o, b < B → w1.cell? ⟨b, o, none⟩ = W.cell? ⟨b, o, none⟩) ∧ (∀ b o, b < B → w1.frozen? ⟨b, o, none⟩ = W.frozen? ⟨b, o, none⟩) :=
  ⟨fun b o h => hb.cell (p := ⟨b, o, none⟩) h, fun b o h => hb.frozen (p := ⟨b, o, none⟩) h⟩

/-- A cell that holds something lies in a block that is there. -/
theorem lt_cell {w : World} {a : Addr} {v : Value} (h : w.cell? a = some v) : a.block < w.heap.size := World.block_lt_of_cell? w a h

/-- The slice value v reads as the values xs, each one cell. -/
def SL (w : World) (v : Value) (xs : List Value) : Prop :=
  xs.length ≤ maxLen ∧ ((xs = [] ∧ ∃ a c, v = .slice a 0 c ∧ (a = none → c = 0)) ∨
  ∃ b off c, v = .slice (some ⟨b, off, none⟩) xs.length c ∧ b < w.heap.size ∧ ∀ i (h : i < xs.length), w.cell? ⟨b, off + i, none⟩ = some xs[i])

theorem SL.below {w w' : World} {v : Value} {xs : List Value} (h : SL w v xs) (hb : Below w.heap.size w w') : SL w' v xs := by
  refine ⟨h.1, ?_⟩
  rcases h.2 with h0 | ⟨b, off, c, rfl, hlt, hc⟩
  · exact .inl h0
  · exact .inr ⟨b, off, c, rfl, Nat.lt_of_lt_of_le hlt hb.size, fun i hi => by rw [hb.cell (p := ⟨b, off + i, none⟩) hlt]; exact hc i hi⟩

theorem SL.nil (w : World) (a : Option Addr) (c : Nat) (h : a = none → c = 0 := by simp) : SL w (.slice a 0 c) [] := ⟨Nat.zero_le _, .inl ⟨rfl, a, c, rfl, h⟩⟩

theorem SL.len {w : World} {v : Value} {xs : List Value} (h : SL w v xs) : ∃ a c, v = .slice a xs.length c := by
  rcases h.2 with ⟨rfl, a, c, rfl, _⟩ | ⟨b, off, c, rfl, _⟩
  · exact ⟨a, c, rfl⟩
  · exact ⟨_, _, rfl⟩

theorem SL.own {w : World} {base : Nat} {e : TypeId} {v : Value} {n : Nat} {xs : List Value} (h : w.ownsRow base e 1 v n xs) (hm : n ≤ maxLen) : SL w v xs := by
  have hl : xs.length = n := by have := h.1; omega
  refine ⟨by omega, ?_⟩
  rcases h.2 with ⟨rfl, rfl⟩ | ⟨g, cap, cur, rfl, hbg, hg, hnc, hcm, hcs, htake⟩
  · exact .inl ⟨List.length_eq_zero_iff.1 hl, none, 0, rfl, fun _ => rfl⟩
  · subst hl
    refine .inr ⟨g, 0, cap, rfl, lt_of_block hg, fun i hi => ?_⟩
    have := h.cellAt i (by omega)
    rw [Nat.zero_add, this, List.getElem?_eq_getElem hi]

/-- Block g begins with the bytes l, none of them frozen. -/
def BytesAt (w : World) (g : Nat) (l : List UInt8) : Prop :=
  ∀ j (h : j < l.length), w.cell? ⟨g, j, none⟩ = some (.int .u8 (l[j].toNat : Int)) ∧ w.frozen? ⟨g, j, none⟩ = false

theorem BytesAt.set {w : World} {g : Nat} {l : List UInt8} (h : BytesAt w g l) (k : Nat) (b : UInt8) : BytesAt (w.setCell ⟨g, k, none⟩ (.int .u8 (b.toNat : Int))) g (l.set k b) := by
  intro j hj
  simp only [List.length_set] at hj
  refine ⟨?_, by rw [World.frozen?_setCell]; exact (h j hj).2⟩
  by_cases e : k = j
  · subst e
    rw [World.cell?_setCell_same _ _ _ (h k hj).1]
    simp
  · rw [World.cell?_setCell_other _ _ _ _ (fun h => e (congrArg Addr.off h)), (h j hj).1, List.getElem_set_ne e]

theorem bytes_conv {P : Program} (w : World) (src dst e : TypeId) (s : ByteArray) (hs : P.underlying src = some .string) (hd : P.underlying dst = some (.slice e)) (he : P.underlying e = some (.int .u8)) :
    ∃ cap w1, (convert src dst (.string s)).run P w = .ok (.slice (some ⟨w.heap.size, 0, none⟩) s.size cap) w1 ∧ BytesAt w1 w.heap.size s.data.toList ∧ Below w.heap.size w w1 ∧ w.heap.size < w1.heap.size := by
  refine ⟨_, _, run_bytes_of_string w src dst e s hs hd he, ?_, ?_, ?_⟩
  · intro j hj
    have hj' : j < s.data.size := by simpa using hj
    have hsz : (w.drew).heap.size = w.heap.size := rfl
    constructor
    · rw [← hsz, World.cell?_alloc_mark, bytesRow_at _ _ _ hj']; simp
    · rw [← hsz, World.frozen?_alloc_mark]
      simp only [Bool.and_eq_false_iff, decide_eq_false_iff_not]
      left
      have : s.data.toList.length = s.data.size := by simp
      simp only [bytesRow, Array.size_append, Array.size_map]; omega
  · exact (Below.refl _ _).drew.alloc (Nat.le_refl _) _
  · rw [World.size_alloc]; exact Nat.lt_succ_self _

theorem addr0 (g j : Nat) : (⟨g, 0, none⟩ : Addr).add j = ⟨g, j, none⟩ := by unfold Addr.add; split <;> simp_all

theorem back_conv {P : Program} (w : World) (src dst e : TypeId) (g cap n : Nat) (l : List UInt8) (hs : P.underlying src = some (.slice e)) (he : P.underlying e = some (.int .u8)) (hd : P.underlying dst = some .string)
    (hl : l.length = n) (hc : BytesAt w g l) :
    (convert src dst (.slice (some ⟨g, 0, none⟩) n cap)).run P w = .ok (.string ⟨l.toArray⟩) w := by
  subst hl
  exact run_convert_bytes_back w src dst e ⟨g, 0, none⟩ cap l hs he hd (fun j hj => by have := (hc j hj).1; rw [addr0]; exact this)

/-! ### Bytes -/
def smallB (c : Int) : Bool := decide (97 ≤ c ∧ c ≤ 122)
def greatB (c : Int) : Bool := decide (65 ≤ c ∧ c ≤ 90)
def digitB (c : Int) : Bool := decide (48 ≤ c ∧ c ≤ 57)
/-- A byte of a word. -/
def rowB (c : Int) : Bool := smallB c || greatB c || digitB c || (c == 45) || (c == 39)
def lowU (c : UInt8) : UInt8 := if greatB (c.toNat : Int) then c + 32 else c
def lowS (s : ByteArray) : ByteArray := ⟨(s.data.toList.map lowU).toArray⟩

theorem lowU_great {c : UInt8} (h : greatB (c.toNat : Int) = true) : ((lowU c).toNat : Int) = (c.toNat : Int) + 32 := by
  unfold lowU; rw [if_pos h]
  simp only [greatB, decide_eq_true_eq] at h
  rw [UInt8.toNat_add]
  have : (32 : UInt8).toNat = 32 := rfl
  omega
theorem lowU_other {c : UInt8} (h : greatB (c.toNat : Int) = false) : lowU c = c := by unfold lowU; rw [h]; rfl
end Go.Proofs.YtjggklfegcejhaaGreat
