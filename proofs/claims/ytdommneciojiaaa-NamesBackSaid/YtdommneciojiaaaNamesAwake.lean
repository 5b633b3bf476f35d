/- Contract of clewlaw15.awake. -/
import Derived.Test.YtdommneciojiaaaNamesRefMake
import Derived.Test.YtdommneciojiaaaNamesSame
namespace Go.Proofs.Ytdommneciojiaaa
open Go.RowKit Go.PlainAid
set_option linter.unusedVariables false
set_option linter.unusedSimpArgs false

def fE : (Int × EN) ⊕ List NM → Int | .inl (c, _) => c | .inr _ => 0
def fP : (Int × EN) ⊕ List NM → Int | .inl (_, e) => e.part | .inr _ => 0
def fN : (Int × EN) ⊕ List NM → Int | .inl (_, e) => e.at_ | .inr _ => 0
def fS : (Int × EN) ⊕ List NM → ByteArray | .inl (_, e) => ⟨e.nm.toArray⟩ | .inr _ => ⟨#[]⟩
theorem faultR_eq (R : (Int × EN) ⊕ List NM) : faultR R = .agg #[.int .i64 (fE R), .int .i64 (fP R), .int .i64 (fN R), .string (fS R)] := by
  rcases R with ⟨c, e⟩ | l <;> rfl
theorem str1_reads {w : World} {k : Nat} {x : List UInt8} {T : TypeId} (h : BK w k [.string (mkB x)] T) (hx : x.length ≤ maxLen) : Reads Cd.str.seq w (.slice (some ⟨k, 0, none⟩) 1 1) [x] := by
  refine ⟨_, [[.string (mkB x)]], rfl, ⟨⟨(by show 1 ≤ maxLen; decide), fun r hr => by rw [List.mem_singleton.1 hr]; rfl, .inr ⟨k, 0, 1, rfl, h.lt, fun i j hi hj => ?_⟩⟩, _, 1, rfl, Nat.le_refl _⟩, rfl, fun i h1 h2 => ?_⟩
  · have hi0 : i = 0 := by simp at hi; omega
    have hj0 : j = 0 := by have : Cd.str.k = 1 := rfl; omega
    subst hi0 hj0
    exact h.cell 0
  · have hi0 : i = 0 := by simp at h1; omega
    subst hi0
    exact ⟨rfl, hx⟩
theorem obj1_reads {w : World} {k : Nat} {x : List UInt8} {q : ByteArray} {T : TypeId} (h : BK w k (objRow x q) T) (hx : x.length ≤ maxLen) : Reads Cd.obj.seq w (.slice (some ⟨k, 0, none⟩) 1 1) [x] := by
  refine ⟨_, [objRow x q], rfl, ⟨⟨(by show 1 ≤ maxLen; decide), fun r hr => by rw [List.mem_singleton.1 hr]; rfl, .inr ⟨k, 0, 1, rfl, h.lt, fun i j hi hj => ?_⟩⟩, _, 1, rfl, Nat.le_refl _⟩, rfl, fun i h1 h2 => ?_⟩
  · have hi0 : i = 0 := by simp at hi; omega
    subst hi0
    have := h.cell j
    simpa using this
  · have hi0 : i = 0 := by simp at h1; omega
    subst hi0
    exact ⟨⟨q, rfl⟩, hx⟩
def dA : DC := ⟨[[114, 101, 100]], [], [], [[104, 97, 108, 108]], [], [], []⟩
def dB : DC := ⟨[], [], [], [[111, 112, 101, 110]], [], [], []⟩
def lA : List NM := [⟨[98, 111, 120], 1, 2⟩, ⟨[104, 97, 108, 108], 4, 2⟩, ⟨[104, 105, 100, 100, 101, 110], 1, 3⟩, ⟨[108, 105, 116], 1, 0⟩, ⟨[111, 112, 101, 110], 1, 1⟩, ⟨[114, 101, 100], 1, 4⟩]
theorem runA : runN okN (entsD dA) fourN = .inr (fourN ++ [⟨[114, 101, 100], 1, 4⟩, ⟨[104, 97, 108, 108], 4, 2⟩]) := by kernel_rfl
theorem runB : runN okN (entsD dB) fourN = .inl (10, ⟨[111, 112, 101, 110], 4, 5, 0, 2, 126⟩) := by kernel_rfl
theorem sortA : namesR (runN okN (entsD dA) fourN) = lA := by rw [runA]; kernel_rfl
theorem faultA : faultR (runN okN (entsD dA) fourN) = .agg #[.int .i64 0, .int .i64 0, .int .i64 0, .string ⟨#[]⟩] := by rw [runA]; rfl
theorem faultB : faultR (runN okN (entsD dB) fourN) = .agg #[.int .i64 10, .int .i64 5, .int .i64 0, .string ⟨#[111, 112, 101, 110]⟩] := by rw [runB]; rfl
theorem risesA : RisesN lA := by unfold RisesN lA; decide
theorem ofA : ofN lA 4 [104, 97, 108, 108] = (2, 0) := by kernel_rfl
theorem few_dA : dA.few 400 := ⟨by decide, by decide, by decide, by decide, by decide, by decide, by decide⟩
theorem few_dB : dB.few 400 := ⟨by decide, by decide, by decide, by decide, by decide, by decide, by decide⟩
set_option maxRecDepth 100000 in
set_option maxHeartbeats 4000000 in
theorem awake15 (m : Int) (w : World) (hm : w.cell? ⟨0, 0, none⟩ = some (.int .i64 m)) :
    Calls Try.prog 9 #[] w fun e w' => e = .returned (.bool true) ∧ Below w.heap.size w w' := by
  have HMX := Lib.hid hm
  clear hm
  go_enter Try.func9, Try.ntmps9
  go_wp2_with fail
  have hk1 := (BK.new w [.string (mkB [114, 101, 100])] 9).alloc (.cells (objRow [104, 97, 108, 108] ⟨#[]⟩).toArray 58)
  have hk2 := BK_at (w := w.alloc (.cells #[.string (mkB [114, 101, 100])] 9)) (n := w.heap.size + 1) (by simp) (objRow [104, 97, 108, 108] ⟨#[]⟩) 58
  have hb0 := bl_a (bl_a (Below.refl w.heap.size w) (.cells #[.string (mkB [114, 101, 100])] 9)) (.cells (objRow [104, 97, 108, 108] ⟨#[]⟩).toArray 58)
  have hs1 : SrcIs _ (.slice (some ⟨w.heap.size, 0, none⟩) 1 1) nilV nilV (.slice (some ⟨w.heap.size + 1, 0, none⟩) 1 1) nilV nilV nilV dA := ⟨str1_reads hk1 (by decide), reads_nil _, reads_nil _, obj1_reads hk2 (by decide), reads_nil _, reads_nil _, reads_nil _⟩
  have hmk := namesMake _ _ _ _ _ _ _ dA m _ hs1 few_dA ((hb0.cell (p := ⟨0, 0, none⟩) (lt_cell HMX.out)).trans HMX.out)
  rw [sortA, faultA] at hmk
  refine hmk.mono ?_
  rintro e w1 ⟨v1, rfl, hB1, hT1⟩
  have HB1 := Lib.hid (bl_then hb0 hB1)
  obtain ⟨ta, tc, htv, htc, _⟩ := hT1.len
  rw [show lA.length = 6 from rfl] at htv htc
  subst htv
  have HT1 := Lib.hid hT1
  clear hk1 hk2 hb0 hs1 hmk hB1 hT1
  go_wp2_with fail
  have hkf := (BK.new w1 [.int .i64 0, .int .i64 0, .int .i64 0, .string ⟨#[]⟩] 30).alloc (.cells (objRow [111, 112, 101, 110] ⟨#[]⟩).toArray 58)
  have hk2 := BK_at (w := w1.alloc (.cells #[.int .i64 0, .int .i64 0, .int .i64 0, .string ⟨#[]⟩] 30)) (n := w1.heap.size + 1) (by simp) (objRow [111, 112, 101, 110] ⟨#[]⟩) 58
  have hb0 := bl_a (bl_a (Below.refl w1.heap.size w1) (.cells #[.int .i64 0, .int .i64 0, .int .i64 0, .string ⟨#[]⟩] 30)) (.cells (objRow [111, 112, 101, 110] ⟨#[]⟩).toArray 58)
  have hs1 : SrcIs _ nilV nilV nilV (.slice (some ⟨w1.heap.size + 1, 0, none⟩) 1 1) nilV nilV nilV dB := ⟨reads_nil _, reads_nil _, reads_nil _, obj1_reads hk2 (by decide), reads_nil _, reads_nil _, reads_nil _⟩
  have hmk := namesMake _ _ _ _ _ _ _ dB m _ hs1 few_dB (((bl_then HB1.out hb0).cell (p := ⟨0, 0, none⟩) (lt_cell HMX.out)).trans HMX.out)
  rw [faultB] at hmk
  refine hmk.mono ?_
  rintro e w2 ⟨v2, rfl, hB2, hT2⟩
  have HB2 := Lib.hid (bl_then (bl_then HB1.out hb0) hB2)
  have HF2 := Lib.hid (hkf.below hB2)
  have HT2 := Lib.hid ((HT1.out.below hb0).below hB2)
  clear hkf hk2 hb0 hs1 hmk hB2 hT2 HT1
  go_wp2_with fail
  generalize hW3 : w2.alloc _ = W3
  have hb3 : Below w2.heap.size w2 W3 := by rw [← hW3]; exact bl_a (Below.refl _ _) _
  have hk3 : BK W3 w2.heap.size [.int .i64 10, .int .i64 5, .int .i64 0, .string ⟨#[111, 112, 101, 110]⟩] 30 := by rw [← hW3]; exact BK.new w2 _ _
  have hof := namesOf _ lA 4 [104, 97, 108, 108] W3 (HT2.out.below hb3) risesA (by decide)
  rw [ofA] at hof
  refine hof.mono ?_
  rintro e w4 ⟨rfl, hB4⟩
  have HB4 := Lib.hid (bl_then (bl_then HB2.out hb3) hB4)
  have HF4 := Lib.hid ((HF2.out.below hb3).below hB4)
  have HG4 := Lib.hid (hk3.below hB4)
  obtain ⟨b, off, cap, hv, hcap, hblt, hcell⟩ := nm_open ((HT2.out.below hb3).below hB4) (by decide)
  have hac : ta = some ⟨b, off, none⟩ := by simp at hv; exact hv.1
  subst hac
  have e0 : w4.cell? ⟨b, off + 15, none⟩ = some (.string ⟨#[114, 101, 100]⟩) := (hcell 5 (by decide)).1
  have e1 : w4.cell? ⟨b, off + 15 + 1, none⟩ = some (.int .i64 1) := (hcell 5 (by decide)).2.1
  have e2 : w4.cell? ⟨b, off + 15 + 2, none⟩ = some (.int .i64 4) := (hcell 5 (by decide)).2.2
  have f0 := HF4.out.cell 0
  have f1 := HF4.out.cell 1
  have f2 := HF4.out.cell 2
  have f3 := HF4.out.cell 3
  have g0 := HG4.out.cell 0
  have g1 := HG4.out.cell 1
  have g2 := HG4.out.cell 2
  have g3 := HG4.out.cell 3
  simp only [List.getElem?_cons_zero, List.getElem?_cons_succ] at f0 f1 f2 f3 g0 g1 g2 g3
  clear hW3 hb3 hk3 hof hB4 hv hcell HT2
  go_wp2
  go_ret
  exact ⟨rfl, HB4.out⟩
end Go.Proofs.Ytdommneciojiaaa
