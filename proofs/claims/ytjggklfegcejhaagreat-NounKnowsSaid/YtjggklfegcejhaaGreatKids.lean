/- Contract of nest.Children. -/
import Derived.Test.YtjggklfegcejhaaGreatNest2
import Derived.Test.YtjggklfegcejhaaGreatSeq
namespace Go.Proofs.YtjggklfegcejhaaGreat
open Go.RowKit Go.Shelf
set_option linter.unusedVariables false
set_option linter.unusedSimpArgs false

/-- A list of one's own, of numbers. -/
def OwnInts (B : Nat) (w' : World) (v : Value) (l : List Int) : Prop := w'.ownsRow B 3 1 v l.length (l.map (Value.int .i64)) ∧ (l = [] → v = .slice none 0 0)
theorem OwnInts.below {B : Nat} {w w' : World} {v : Value} {l : List Int} (h : OwnInts B w v l) (hb : Below w.heap.size w w') : OwnInts B w' v l := ⟨ow_below h.1 hb, h.2⟩
theorem ow_base {w : World} {b b' : Nat} {e : TypeId} {k : Nat} {v : Value} {n : Nat} {xs : List Value} (h : w.ownsRow b e k v n xs) (hb : b' ≤ b) : w.ownsRow b' e k v n xs := by
  refine ⟨h.1, ?_⟩
  rcases h.2 with h2 | ⟨g, cap, cur, h3, h4, h5⟩
  · exact .inl h2
  · exact .inr ⟨g, cap, cur, h3, Nat.le_trans hb h4, h5⟩
theorem OwnInts.base {B B' : Nat} {w : World} {v : Value} {l : List Int} (h : OwnInts B w v l) (hb : B' ≤ B) : OwnInts B' w v l := ⟨ow_base h.1 hb, h.2⟩
theorem OwnInts.shape {B : Nat} {w : World} {v : Value} {l : List Int} (h : OwnInts B w v l) : ∃ a c, v = .slice a l.length c := ow_shape h.1
/-- It returns such a list. -/
def RetInts (w : World) (l : List Int) (e : Ending) (w' : World) : Prop := ∃ v, e = .returned v ∧ OwnInts w.heap.size w' v l ∧ Below w.heap.size w w'
theorem kids_len1 (ch nx : List Int) (n : Nat) (x : Int) (hn : n ≤ 1000000) : (kidsW ch nx n x).length ≤ 1000000 := Nat.le_trans (kids_len ch nx n x) hn
set_option maxRecDepth 100000 in
theorem childrenC (q : Wv) (d : WdC) (x : Int) (n : Nat) (w : World) (hw : WIs w q d) (hl : WLen q d n) (hn : 0 < n) (hnn : n ≤ 1000000) :
    Calls Tryz.prog 139 #[worldV q, .int .i64 x] w (RetInts w (kidsW d.ch d.nx n x)) := by
  have HM := Lib.hid (fun w' => mkC q x w')
  have hnum := hw.nums hl
  have hlow : Low q w.heap.size := fun b o h => by
    rcases h with h | h | h
    · exact hw.pa.low (by omega) h
    · exact hw.ch.low (by omega) h
    · exact hw.nx.low (by omega) h
  have HC : Hid (∀ W1, W1 = w.alloc (.cells (worldC q).toArray 31) → ∀ W2, W2 = (W1.alloc (.cells (worldC q).toArray 31)).alloc (.cells #[.int .i64 x] 3) →
      Calls Tryz.prog 104 #[.func (.func 146) #[] #[.pointer (some ⟨w.heap.size + 1, 0, none⟩), .pointer (some ⟨w.heap.size + 1 + 1, 0, none⟩)]] W2 (RetInts W2 (kidsW d.ch d.nx n x))) := Lib.hid (by
    intro W1 h1 W2 h2
    have z1 : W1.heap.size = w.heap.size + 1 := by rw [h1, World.size_alloc]
    have z2 : W2.heap.size = W1.heap.size + 2 := by rw [h2, World.size_alloc, World.size_alloc]
    rw [← z1]
    have b1 : Below w.heap.size w W2 := by rw [h2, h1]; exact bl_a (bl_a (bl_a (Below.refl _ _) _) _) _
    have k1 : BK W2 W1.heap.size (worldC q) 31 := by rw [h2]; exact (BK.new W1 (worldC q) 31).alloc _
    have k2 : BK W2 (W1.heap.size + 1) [.int .i64 x] 3 := by
      rw [h2]
      have := BK.new (W1.alloc (.cells (worldC q).toArray 31)) [.int .i64 x] 3
      rwa [World.size_alloc] at this
    have hs := kidsSeq q d x n W1.heap.size W2.heap.size W2 hl hn (hw.below b1) k1 k2 (by omega) (Nat.le_refl _) (fun b o h => by have := hlow b o h; omega)
    refine (collectC _ _ (enters_of Tryz.func146 (by kernel_rfl) rfl) W2.heap.size W2 (kidsW d.ch d.nx n x) (Nat.le_refl _) (kids_len1 _ _ _ _ hnn) ((hs.weaker (fun X Y h => h.1)).later (bl_a (Below.refl _ _) _))).mono ?_
    rintro e w' ⟨v, he, h3, h4, h5⟩
    exact ⟨v, he, ⟨h3, h4⟩, h5⟩)
  generalize kidsW d.ch d.nx n x = L at HC
  clear hw hl hn hnn hnum hlow
  unfold worldV worldC at *
  go_enter Tryz.func139, Tryz.ntmps139
  go_wp2_with fail
  refine (HM.out _).mono ?_
  rintro e w1 ⟨rfl, rfl⟩
  go_wp2_with fail
  refine (HC.out _ rfl _ rfl).mono ?_
  rintro e w2 ⟨v, rfl, h1, h2⟩
  obtain ⟨a, c, rfl⟩ := ow_shape h1.1
  have H1 := Lib.hid h1
  have H2 := Lib.hid h2
  clear h1 h2
  go_wp2
  go_ret
  have hb := bl_a (bl_a (bl_a (Below.refl w.heap.size w) (.cells (worldC q).toArray 31)) (.cells (worldC q).toArray 31)) (.cells #[.int .i64 x] 3)
  exact ⟨_, rfl, H1.out.base hb.size, hb.trans (H2.out.mono hb.size)⟩
end Go.Proofs.YtjggklfegcejhaaGreat
