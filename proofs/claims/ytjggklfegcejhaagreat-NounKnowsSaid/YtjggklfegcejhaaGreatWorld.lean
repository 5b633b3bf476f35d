/- A world as a value: where its lists lie; what they read as. -/
import Derived.Test.YtjggklfegcejhaaGreatMem
import Derived.Test.YtjggklfegcejhaaGreatTellPlain
namespace Go.Proofs.YtjggklfegcejhaaGreat
open Go.RowKit Go.PlainAid
set_option linter.unusedVariables false
set_option linter.unusedSimpArgs false

/-- A list of numbers in memory. -/
def RowI (w : World) (v : Value) (l : List Int) : Prop := ∃ ad c, v = .slice ad l.length c ∧ l.length ≤ maxLen ∧ (l.length ≤ c) ∧ ∀ i (h : i < l.length), ∃ b o, ad = some ⟨b, o, none⟩ ∧ b < w.heap.size ∧ w.cell? ⟨b, o + i, none⟩ = some (.int .i64 l[i]) ∧ (Lit.int .i64 l[i]).wf = true
theorem RowI.below {w w' : World} {v : Value} {l : List Int} (h : RowI w v l) (hb : Below w.heap.size w w') : RowI w' v l := by
  obtain ⟨ad, c, h1, h2, h3, h4⟩ := h
  refine ⟨ad, c, h1, h2, h3, fun i hi => ?_⟩
  obtain ⟨b, o, h4, h5, h6, h7⟩ := h4 i hi
  exact ⟨b, o, h4, Nat.lt_of_lt_of_le h5 hb.size, (hb.cell (p := ⟨b, o + i, none⟩) h5).trans h6, h7⟩
/-- A world's value: where its seven lists lie, and its six numbers. -/
structure Wv where
  (a0 a1 a2 a3 a4 a5 a6 : Option Addr)
  (l0 l1 l2 l3 l4 l5 l6 c0 c1 c2 c3 c4 c5 c6 : Nat)
  (s sc tu ov it go : Int)
def worldC (q : Wv) : List Value := [.slice q.a0 q.l0 q.c0, .slice q.a1 q.l1 q.c1, .slice q.a2 q.l2 q.c2, .slice q.a3 q.l3 q.c3, .slice q.a4 q.l4 q.c4, .slice q.a5 q.l5 q.c5, .slice q.a6 q.l6 q.c6, .int .u64 q.s, .int .i64 q.sc, .int .i64 q.tu, .int .i64 q.ov, .int .i64 q.it, .int .i64 q.go]
def worldV (q : Wv) : Value := .agg (worldC q).toArray
theorem wd13 {w : World} {k : Nat} {q : Wv} {T : TypeId} (h : BK w k (worldC q) T) : w.cell? ⟨k, 0, none⟩ = some (.slice q.a0 q.l0 q.c0) ∧ w.cell? ⟨k, 1, none⟩ = some (.slice q.a1 q.l1 q.c1) ∧ w.cell? ⟨k, 2, none⟩ = some (.slice q.a2 q.l2 q.c2) ∧ w.cell? ⟨k, 3, none⟩ = some (.slice q.a3 q.l3 q.c3) ∧ w.cell? ⟨k, 4, none⟩ = some (.slice q.a4 q.l4 q.c4) ∧ w.cell? ⟨k, 5, none⟩ = some (.slice q.a5 q.l5 q.c5) ∧ w.cell? ⟨k, 6, none⟩ = some (.slice q.a6 q.l6 q.c6) ∧ w.cell? ⟨k, 7, none⟩ = some (.int .u64 q.s) ∧ w.cell? ⟨k, 8, none⟩ = some (.int .i64 q.sc) ∧ w.cell? ⟨k, 9, none⟩ = some (.int .i64 q.tu) ∧ w.cell? ⟨k, 10, none⟩ = some (.int .i64 q.ov) ∧ w.cell? ⟨k, 11, none⟩ = some (.int .i64 q.it) ∧ w.cell? ⟨k, 12, none⟩ = some (.int .i64 q.go) :=
  ⟨h.cell 0, h.cell 1, h.cell 2, h.cell 3, h.cell 4, h.cell 5, h.cell 6, h.cell 7, h.cell 8, h.cell 9, h.cell 10, h.cell 11, h.cell 12⟩
/-- A world's lists. -/
structure WdC where
  (gl pa ch nx fl pr ti : List Int)
/-- What a world's value reads as. -/
structure WIs (w : World) (q : Wv) (d : WdC) : Prop where
  gl : RowI w (.slice q.a0 q.l0 q.c0) d.gl
  pa : RowI w (.slice q.a1 q.l1 q.c1) d.pa
  ch : RowI w (.slice q.a2 q.l2 q.c2) d.ch
  nx : RowI w (.slice q.a3 q.l3 q.c3) d.nx
  fl : RowI w (.slice q.a4 q.l4 q.c4) d.fl
  pr : RowI w (.slice q.a5 q.l5 q.c5) d.pr
  ti : RowI w (.slice q.a6 q.l6 q.c6) d.ti
  (i1 : (Lit.int .i64 q.sc).wf = true) (i2 : (Lit.int .i64 q.tu).wf = true) (i3 : (Lit.int .i64 q.ov).wf = true) (i4 : (Lit.int .i64 q.it).wf = true) (i5 : (Lit.int .i64 q.go).wf = true)
theorem WIs.below {w w' : World} {q : Wv} {d : WdC} (h : WIs w q d) (hb : Below w.heap.size w w') : WIs w' q d :=
  ⟨h.gl.below hb, h.pa.below hb, h.ch.below hb, h.nx.below hb, h.fl.below hb, h.pr.below hb, h.ti.below hb, h.i1, h.i2, h.i3, h.i4, h.i5⟩
theorem RowI.len {w : World} {a : Option Addr} {n c : Nat} {l : List Int} (h : RowI w (.slice a n c) l) : n = l.length := by
  obtain ⟨ad, c', h1, _⟩ := h
  simp only [Value.slice.injEq] at h1
  exact h1.2.1
/-- One of its numbers: where it lies. -/
theorem RowI.at_ {w : World} {a : Option Addr} {n c : Nat} {l : List Int} (h : RowI w (.slice a n c) l) {i : Nat} (hi : i < l.length) : ∃ b o, a = some ⟨b, o, none⟩ ∧ b < w.heap.size ∧ (∀ j (hj : j < l.length), w.cell? ⟨b, o + j, none⟩ = some (.int .i64 l[j])) ∧ (Lit.int .i64 l[i]).wf = true := by
  obtain ⟨ad, c', h1, h2, h3, h4⟩ := h
  simp only [Value.slice.injEq] at h1
  obtain ⟨rfl, rfl, rfl⟩ := h1
  obtain ⟨b, o, e, h5, h6, h7⟩ := h4 i hi
  refine ⟨b, o, e, h5, fun j hj => ?_, h7⟩
  obtain ⟨b', o', e', _, h8, _⟩ := h4 j hj
  rw [e] at e'
  simp at e'
  obtain ⟨rfl, rfl⟩ := e'
  exact h8
theorem RowI.few {w : World} {v : Value} {l : List Int} (h : RowI w v l) : l.length ≤ maxLen := by
  obtain ⟨_, _, _, h2, _⟩ := h; exact h2
/-- The lists of places have one length, n. -/
structure WLen (q : Wv) (d : WdC) (n : Nat) : Prop where
  h1 : q.l1 = n
  h2 : q.l2 = n
  h3 : q.l3 = n
  few : n ≤ maxLen
theorem WIs.nums {w : World} {q : Wv} {d : WdC} {n : Nat} (h : WIs w q d) (hl : WLen q d n) : d.pa.length = n ∧ d.ch.length = n ∧ d.nx.length = n := ⟨by rw [← h.pa.len, hl.h1], by rw [← h.ch.len, hl.h2], by rw [← h.nx.len, hl.h3]⟩
end Go.Proofs.YtjggklfegcejhaaGreat
