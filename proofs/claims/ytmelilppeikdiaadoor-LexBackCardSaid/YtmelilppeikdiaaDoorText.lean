/- The reader's text. -/
import Derived.Test.YtmelilppeikdiaaDoorTokSign
import Derived.Laws.AppendOwnNone
import Derived.Laws.BytesString
namespace Go.Proofs.YtmelilppeikdiaaDoor
open Go.RowKit Go.PlainAid
set_option linter.unusedVariables false
set_option linter.unusedSimpArgs false

/-- Bytes as values. -/
def byteV (b : UInt8) : Value := .int .u8 (b.toNat : Int)
theorem Tryd.infoB : (Tryd.prog.info? 5).map (fun i => (i.zero, i.size, i.bytes)) = some (some (.int .u8 0), 1, 1) := by kernel_rfl

theorem gb_own {w a b : World} {R : Nat} {row : Option Nat} (h : w.grownBy a (some R)) (g : a.grownBy b row) (hr : ∀ k, row = some k → w.heap.size ≤ k) : w.grownBy b (some R) :=
  ⟨g.os.trans h.os, g.tape.trans h.tape, g.output.trans h.output, Nat.le_trans h.size g.size, fun i hi hn =>
    (g.block i (Nat.lt_of_lt_of_le hi h.size) (fun e => by have := hr i e.symm; omega)).trans (h.block i hi hn)⟩
theorem RD.grown {w w' : World} {R : Nat} {s : ByteArray} {i : Nat} {e fl fc : Int} {row : Option Nat} (h : RD w R s i e fl fc) (hg : w.grownBy w' row) (hr : ∀ k, row = some k → R < k) : RD w' R s i e fl fc := by
  have hk := hg.block R h.blk (fun e => by have := hr R e.symm; omega)
  have hc : ∀ o, w'.cell? ⟨R, o, none⟩ = w.cell? ⟨R, o, none⟩ := fun o => World.cell?_of_block (a := ⟨R, o, none⟩) hk
  have hz : ∀ o, w'.frozen? ⟨R, o, none⟩ = w.frozen? ⟨R, o, none⟩ := fun o => World.frozen?_of_block (a := ⟨R, o, none⟩) hk
  exact ⟨Nat.lt_of_lt_of_le h.blk hg.size, h.le, h.lim, by rw [hc]; exact h.c0, by rw [hc]; exact h.c1, by rw [hc]; exact h.c2, by rw [hc]; exact h.c3, by rw [hc]; exact h.c4, by rw [hc]; exact h.c5, by rw [hc]; exact h.c6, by rw [hz]; exact h.z1, by rw [hz]; exact h.z2, by rw [hz]; exact h.z3, by rw [hz]; exact h.z4, by rw [hz]; exact h.z5, by rw [hz]; exact h.z6⟩
theorem Row5.grown {w w' : World} {k : Nat} {a b c d e : Value} {row : Option Nat} (h : Row5 w k a b c d e) (hg : w.grownBy w' row) (hr : ∀ j, row = some j → j ≠ k) : Row5 w' k a b c d e := by
  have hk := hg.block k h.blk (fun e => (hr k e.symm) rfl)
  have hc : ∀ o, w'.cell? ⟨k, o, none⟩ = w.cell? ⟨k, o, none⟩ := fun o => World.cell?_of_block (a := ⟨k, o, none⟩) hk
  have hz : ∀ o, w'.frozen? ⟨k, o, none⟩ = w.frozen? ⟨k, o, none⟩ := fun o => World.frozen?_of_block (a := ⟨k, o, none⟩) hk
  exact ⟨Nat.lt_of_lt_of_le h.blk hg.size, by rw [hc]; exact h.c0, by rw [hc]; exact h.c1, by rw [hc]; exact h.c2, by rw [hc]; exact h.c3, by rw [hc]; exact h.c4, fun o => by rw [hz]; exact h.z o⟩
theorem own_grown {w w' : World} {base : Nat} {e : TypeId} {v : Value} {n : Nat} {xs : List Value} {R : Nat} (h : w.ownsRow base e 1 v n xs) (hg : w.grownBy w' (some R)) (hR : R < base) : w'.ownsRow base e 1 v n xs := by
  refine h.kept hg ?_
  cases hv : v.ownBlock with
  | none => exact .inl rfl
  | some b =>
    right
    intro he
    have h1 := (h.lt b hv).1
    have h2 : b = R := by simpa using he
    omega

/-- 'string(b)' of an owned row of bytes. -/
theorem conv_own {P : Program} {w : World} {base : Nat} {e : TypeId} {v : Value} {l : List UInt8} (src dst : TypeId) (hs : P.underlying src = some (.slice e)) (he : P.underlying e = some (.int .u8)) (hd : P.underlying dst = some .string)
    (h : w.ownsRow base e 1 v l.length (l.map byteV)) : (convert src dst v).run P w = .ok (.string (mkB l)) w := by
  rcases h.2 with ⟨rfl, h0⟩ | ⟨g, cap, cur, rfl, _⟩
  · have : l = [] := List.length_eq_zero_iff.1 h0
    subst this
    rw [run_convert_bytes_string w src dst e none _ 0 hs he hd]
    simp [Conv.bytesToString]
    rfl
  · refine run_convert_bytes_back w src dst e ⟨g, 0, none⟩ cap l hs he hd (fun j hj => ?_)
    rw [addr0]
    have hj' : j < (l.map byteV).length := by simpa using hj
    rw [h.cellAt j (by omega), List.getElem?_eq_getElem hj']
    simp [byteV]

/-- What holds at the head of the loop over a text's bytes: the reader stands at k, out is what the text says till there. -/
structure Tx4 (w wr : World) (R : Nat) (s : ByteArray) (k : Nat) (v : Value) (out : List UInt8) : Prop where
  rd : RD wr R s k 0 0 0
  own : wr.ownsRow (w.heap.size + 1) 5 1 v out.length (out.map byteV)
  row : Row5 wr w.heap.size (.int .i64 0) (.string ⟨#[]⟩) (.int .i64 0) (.int .i64 0) (.int .i64 0)
  gb : w.grownBy wr (some R)
theorem Tx4.keep {w wr w' : World} {R : Nat} {s : ByteArray} {k k' : Nat} {v : Value} {out : List UInt8} (h : Tx4 w wr R s k v out) (hR : R < w.heap.size) (hr : RD w' R s k' 0 0 0) (hg : wr.grownBy w' (some R)) : Tx4 w w' R s k' v out :=
  ⟨hr, own_grown h.own hg (by omega), h.row.kept hg (by omega), gb_trans h.gb hg⟩
theorem Tx4.drewN {w wr : World} {R : Nat} {s : ByteArray} {k : Nat} {v : Value} {out : List UInt8} (h : Tx4 w wr R s k v out) (hR : R < w.heap.size) (n : Nat) : Tx4 w (wr.drewN n) R s k v out :=
  h.keep hR (h.rd.drewN n) (gb_drewN (gb_refl _ _) n)
theorem Tx4.push {w wr w' : World} {R : Nat} {s : ByteArray} {k : Nat} {v v2 : Value} {out : List UInt8} {b : UInt8} {o : Obj} (h : Tx4 w wr R s k v out) (hR : R < w.heap.size) (hg : (wr.alloc o).grownBy w' v.ownBlock)
    (hown : w'.ownsRow (w.heap.size + 1) 5 1 v2 (out.length + 1) (out.map byteV ++ [byteV b])) : Tx4 w w' R s k v2 (out ++ [b]) := by
  have hlo : ∀ j, v.ownBlock = some j → w.heap.size + 1 ≤ j := fun j hj => (h.own.lt j hj).1
  have h1 : wr.grownBy w' v.ownBlock := by
    refine gb_trans (World.grownBy_alloc wr o v.ownBlock) hg
  exact ⟨h.rd.grown h1 (fun j hj => by have := hlo j hj; omega), by simpa using hown, h.row.grown h1 (fun j hj => by have := hlo j hj; omega), gb_own h.gb h1 (fun j hj => by have := hlo j hj; omega)⟩

theorem bx_shape {w : World} {base : Nat} {e : TypeId} {v : Value} {n : Nat} {xs : List Value} (h : w.ownsRow base e 1 v n xs) : ∃ a c, v = .slice a n c := by
  rcases h.2 with ⟨rfl, rfl⟩ | ⟨g, cap, cur, rfl, _⟩
  · exact ⟨_, _, rfl⟩
  · exact ⟨_, _, rfl⟩
theorem bx_lt {w : World} {base : Nat} {e : TypeId} {size : Nat} {v : Value} {n : Nat} {xs : List Value} (h : w.ownsRow base e size v n xs) : ∀ k, v.ownBlock = some k → base ≤ k := fun k hk => (h.lt k hk).1
theorem bx_alloc {a : Nat} {w : World} (h : a ≤ w.heap.size) (o : Obj) : a ≤ (w.alloc o).heap.size := by rw [World.size_alloc]; omega
theorem bx_one {x : Value} (h : x.oneCell' = true) : ∀ u ∈ [x], u.oneCell' = true := by intro u hu; simp at hu; subst hu; exact h

/-- What a backslash and a byte mean. -/
def escB (c : Int) : UInt8 := if c = 110 then 10 else c.toNat.toUInt8
def ub (s : ByteArray) (k : Nat) : UInt8 := (bt s k).toNat.toUInt8
theorem ub_iv {b : UInt8} {c : Int} (h : iv b = c) : c.toNat.toUInt8 = b := by
  subst h; unfold iv; simp
theorem ub_val (s : ByteArray) (k : Nat) : ((ub s k).toNat : Int) = bt s k := by
  have h0 := bt_nonneg s k
  have h1 := bt_le s k
  unfold ub
  have : ((bt s k).toNat.toUInt8).toNat = (bt s k).toNat := by simp; omega
  rw [this]; omega

def tx2 : TK := ⟨3, [], 0, 0, 2, 0⟩
theorem tx_end {s : ByteArray} {k : Nat} (out : List UInt8) (j : Nat) (h : s.size ≤ k) : textL (sfx s k) out j = tx2 := by
  rw [sfx_nil h, textL_nil]; rfl
theorem tx_nl {s : ByteArray} {k : Nat} (out : List UInt8) (j : Nat) (h : k < s.size) (hc : bt s k = 10) : textL (sfx s k) out j = tx2 := by
  obtain ⟨b, hb, hv⟩ := sfx_cons h
  rw [hb, textL_cons, if_pos (by rw [hv]; exact hc)]; rfl
theorem tx_quote {s : ByteArray} {k : Nat} (out : List UInt8) (j : Nat) (h : k < s.size) (hc : bt s k = 34) : textL (sfx s k) out j = if 1024 < out.length then ⟨3, [], 0, 0, 3, 0⟩ else ⟨3, out, 0, j + 1, 0, 0⟩ := by
  obtain ⟨b, hb, hv⟩ := sfx_cons h
  rw [hb, textL_cons, if_neg (by omega), if_pos (by omega)]
theorem tx_bad {s : ByteArray} {k : Nat} (out : List UInt8) (j : Nat) (h : k < s.size) (hn : bt s k ≠ 10) (hc : cSaid (bt s k) = false) : textL (sfx s k) out j = ⟨3, [], 0, 0, 13, j⟩ := by
  obtain ⟨b, hb, hv⟩ := sfx_cons h
  rw [hb, textL_cons, if_neg (by omega), if_neg (by intro e; rw [← hv, e] at hc; simp [cSaid] at hc), if_pos (by rw [hv]; exact hc)]
theorem tx_esc {s : ByteArray} {k : Nat} (out : List UInt8) (j : Nat) (h : k < s.size) (hc : bt s k = 92) : textL (sfx s k) out j = if bt s (k + 1) = 110 ∨ bt s (k + 1) = 34 ∨ bt s (k + 1) = 92 then textL (sfx s (k + 2)) (out ++ [escB (bt s (k + 1))]) (j + 2) else ⟨3, [], 0, 0, 4, j⟩ := by
  obtain ⟨b, hb, hv⟩ := sfx_cons h
  rw [hb, textL_cons, if_neg (by omega), if_neg (by omega), if_neg (by rw [hv, hc]; decide), if_pos (by omega)]
  by_cases h2 : k + 1 < s.size
  · obtain ⟨c, hc2, hv2⟩ := sfx_cons h2
    rw [hc2, textM, hv2]
    by_cases h3 : bt s (k + 1) = 110
    · rw [if_pos h3, if_pos (.inl h3), escB, if_pos h3]
    · rw [if_neg h3]
      by_cases h4 : bt s (k + 1) = 34 ∨ bt s (k + 1) = 92
      · rw [if_pos h4, if_pos (.inr h4), escB, if_neg h3, ub_iv hv2]
      · rw [if_neg h4, if_neg (by omega)]
  · rw [sfx_nil (by omega), bt_end s (by omega), textM, if_neg (by omega)]
theorem tx_step {s : ByteArray} {k : Nat} (out : List UInt8) (j : Nat) (h : k < s.size) (h1 : bt s k ≠ 34) (h2 : bt s k ≠ 92) (hc : cSaid (bt s k) = true) : textL (sfx s k) out j = textL (sfx s (k + 1)) (out ++ [ub s k]) (j + 1) := by
  obtain ⟨b, hb, hv⟩ := sfx_cons h
  have hne : bt s k ≠ 10 := by intro e; rw [e] at hc; simp [cSaid] at hc
  rw [hb, textL_cons, if_neg (by omega), if_neg (by omega), if_neg (by rw [hv, hc]; simp), if_neg (by omega), ub, ub_iv hv]
end Go.Proofs.YtmelilppeikdiaaDoor
